/- Package kernel: File, and what it hands to own.with. Conditions: each theorem's own premises; the variable errors.errorType holds what is laid. Package kernel: Pipe, and what it hands to own.with. Conditions: each theorem's own premises; the variable errors.errorType holds what is laid. Package kernel: Dup2. Conditions: each theorem's own premises; the variable errors.errorType holds what is laid. Package kernel: Exec. Conditions: each theorem's own premises. Package kernel: what Take does to the whole. Conditions: each theorem's own premises. Package kernel: Fork. Conditions: each theorem's own premises. -/
import Derived.Test.YtamleilijmgoeaaGreatDoorKern
import Derived.Test.YtamleilijmgoeaaGreatDoorDescLaw
import Derived.Test.YtamleilijmgoeaaGreatDoorVm
import Derived.Test.YtamleilijmgoeaaGreatDoorDescTab
namespace Go.Proofs.YtamleilijmgoeaaGreatDoor
open Go.RowKit
set_option linter.unusedVariables false
section
variable {W w w' w1 : World} {a : KA} {k : KS} {C C' : Nat → Nat × Nat} {pid : Int} {i j : Nat} {o o' : KO} {x : Spc} {y : Nat × PTab} {S S' : PS} {L L' L0 : PTab} {ts : List (Nat × PTab)} {tab : Nat} {t' : St} {u' v' : Nat → Int} {e : PE} {n : Int}
def FileBox (w : World) (a : KA) (o : KO) (s : ByteArray) (p : Int) (mk : Bool) (bk bo bs bp bm bt : Nat) : Prop := BoxAt w bk (.pointer (some ⟨a.kb, 0, none⟩)) ∧ BoxAt w bo (.pointer (some ⟨o.ob, 0, none⟩)) ∧ BoxAt w bs (.string s) ∧ BoxAt w bp (.int .i64 p) ∧ BoxAt w bm (.bool mk) ∧ BoxAt w bt (.int .i64 0)
set_option maxHeartbeats 2000000 in
set_option maxRecDepth 100000 in
theorem kfile1_is {bk bo bs bp bm bt : Nat} {Kx : World → Prop} (hx0 : Kx w) (hx : ∀ w1 w2, Kx w1 → Turn (fun j => C j ≠ (7, 0) ∨ j = bt) w1 w2 → Kx w2) (h : KIn W w a (fileK k i o y k.S y.2 u') C) (hok : KOk k) (hm : Mine k pid i o x y) (hLd : Laid W) (s : ByteArray) (hs : s.size < 4294967281) (p : Int) (mk : Bool) (hb : FileBox w a o s p mk bk bo bs bp bm bt) (hC : C bk = (7, 0) ∧ C bo = (7, 0) ∧ C bs = (7, 0) ∧ C bp = (7, 0) ∧ C bm = (7, 0) ∧ C bt = (7, 0)) (hN : bt ≠ bk ∧ bt ≠ bo ∧ bt ≠ bs ∧ bt ≠ bp ∧ bt ≠ bm) :
  Calls Tryz.prog 152 #[.pointer (some ⟨bk, 0, none⟩), .pointer (some ⟨bo, 0, none⟩), .pointer (some ⟨bs, 0, none⟩), .pointer (some ⟨bp, 0, none⟩), .pointer (some ⟨bm, 0, none⟩), .pointer (some ⟨bt, 0, none⟩)] w (FnDoes W a k i o y (openE k.S y.2 s p mk) (openS k.S y.2 s p mk) (openL k.S y.2 s p mk) u' C (fun w' => BoxAt w' bt (.int .i64 (openK k.S y.2 s p mk)) ∧ Kx w')) := by
 have HKx := hid (show Kx w.drew from hx _ _ hx0 ((Turn.refl _ _).drew))
 have Hx := hid hx
 have hd := h.drewS
 have hO2 := hd.there hm
 obtain ⟨b1, b2, b3, b4, b5, b6⟩ := hb
 have tw : Turn (fun _ => False) w w.drew := (Turn.refl _ _).drew
 have q1 := (b1.turned tw id).1
 have q2 := hd.c2
 have q3 := (b2.turned tw id).1
 have q4 := hO2.c1
 have q5 := (b3.turned tw id).1
 have q6 := (b4.turned tw id).1
 have q7 := (b5.turned tw id).1
 have hLB : LaidB ⟨w.drew, fun j => j < W.heap.size ∨ C j ≠ (0, 0)⟩ := ⟨hLd.turned0 hd.turn, .inl hLd.lt⟩
 have HP := hid (law_file hd.desc hok.dok (mine_file (S' := k.S) (L' := y.2) (u' := u') hm).tab hLB s hs p mk)
 have HD := hid hd
 have HOk := hid hok
 have HM := hid hm
 have HC := hid hC
 have HB := hid (show BoxAt w.drew bk _ ∧ BoxAt w.drew bo _ ∧ BoxAt w.drew bs _ ∧ BoxAt w.drew bp _ ∧ BoxAt w.drew bm _ ∧ BoxAt w.drew bt _ from ⟨b1.turned tw id, b2.turned tw id, b3.turned tw id, b4.turned tw id, b5.turned tw id, b6.turned tw id⟩)
 have n1 := hN.1
 have n2 := hN.2.1
 have n3 := hN.2.2.1
 have n6 := hN.2.2.2.1
 have n7 := hN.2.2.2.2
 have n4 : bt ≠ a.kb := kmark hC.2.2.2.2.2 h.ckb (by decide)
 have n5 : bt ≠ o.ob := by
  have h5 := h.cob i _ (mine_file (S' := k.S) (L' := y.2) (u' := u') hm).ko
  exact kmark hC.2.2.2.2.2 h5 (by simp)
 clear h hok hm hd hO2 hN b1 b2 b3 b4 b5 b6 tw hC hLd hLB hx0 hx
 go_enter Tryz.func152, Tryz.ntmps152
 go_wp2_with fail
 go_region_held3 (fun w' => w'.cell? ⟨bk, 0, none⟩ = some (.pointer (some ⟨a.kb, 0, none⟩)) ∧ w'.cell? ⟨a.kb, 2, none⟩ = some (.pointer (some ⟨a.fb, 0, none⟩)) ∧ w'.cell? ⟨bo, 0, none⟩ = some (.pointer (some ⟨o.ob, 0, none⟩)) ∧ w'.cell? ⟨o.ob, 1, none⟩ = some (.pointer (some ⟨y.1, 0, none⟩)) ∧ w'.cell? ⟨bs, 0, none⟩ = some (.string s) ∧ w'.cell? ⟨bp, 0, none⟩ = some (.int .i64 p) ∧ w'.cell? ⟨bm, 0, none⟩ = some (.bool mk))
  (first | exact ⟨q1, q2, q3, q4, q5, q6, q7⟩ | exact ⟨r1, r2, r3, r4, r5, r8, r9⟩ | (refine ⟨?_, ?_, ?_, ?_, ?_, ?_, ?_⟩ <;> (rw [World.cell?_setCell_other _ _ _ _ (by intro e; injection e with e; omega)]; assumption)) | go_keep)
  (first | (go_at_call 153; refine HP.out.mono ?_; rintro e w4 ⟨rfl, hd4⟩; have hI4 := HD.out.fileIn HM.out hd4; have hT4 := hd4.turn; have HK4x := hid (Hx.out _ _ HKx.out (hT4.mono (fun j _ hn => .inl (fun e => hn (.inr (by rw [e]; decide)))))); have HI4 := hid hI4; have r2 := hI4.c2; have r4 := (hI4.at_ (mine_file HM.out)).1.c1; have r1 := (HB.out.1.turned hT4 (fun hn => hn (.inr (by rw [HC.out.1]; decide)))).1; have r3 := (HB.out.2.1.turned hT4 (fun hn => hn (.inr (by rw [HC.out.2.1]; decide)))).1; have r5 := (HB.out.2.2.1.turned hT4 (fun hn => hn (.inr (by rw [HC.out.2.2.1]; decide)))).1; have r8 := (HB.out.2.2.2.1.turned hT4 (fun hn => hn (.inr (by rw [HC.out.2.2.2.1]; decide)))).1; have r9 := (HB.out.2.2.2.2.1.turned hT4 (fun hn => hn (.inr (by rw [HC.out.2.2.2.2.1]; decide)))).1; have hb4 := (HB.out.2.2.2.2.2.turned hT4 (fun hn => hn (.inr (by rw [HC.out.2.2.2.2.2]; decide)))); have r6 := hb4.1; have r7 := hb4.2; simp only at r4; clear hd4 hI4 hT4 hb4))
 all_goals go_wp2_with fail
 all_goals go_returns
 all_goals exact ⟨rfl, HI4.out.seven ((turn_own bt _ 0 _).mono (fun j _ e => by rw [e]; exact HC.out.2.2.2.2.2)), ⟨World.cell?_setCell_same _ _ _ r6, by rw [World.frozen?_setCell]; exact r7⟩, Hx.out _ _ HK4x.out ((turn_own bt _ 0 _).mono (fun j _ e => .inr e))⟩
theorem fit_one (hf : Fit o.u o.m) (hlim : ¬ o.m 1 < o.u 1 + 1) : Fit (upd o.u 1 (o.u 1 + 1)) o.m := fun j hj => by
 have h3 := hf j hj
 have h4 := hf 1 (by omega)
 by_cases e : j = 1
 ·subst e; rw [upd_same]; exact ⟨by omega, by omega, h3.2.2⟩
 ·rw [upd_other _ _ e]; exact h3
theorem usedL_open {path : ByteArray} {prot : Int} {mk : Bool} (hE : openE S L path prot mk = 0) (hS : DOk S) : usedL (openL S L path prot mk) = usedL L + 1 := by
 obtain ⟨⟨j, hl, hj, hjz⟩, _⟩ := open_len hS hE
 unfold openL
 rw [if_pos hE, show (leastL L).toNat = j by omega]
 have h5 := usedL_set (L := L) (j := j) (x := ((freeE S.es : Int) + 1, false)) hj
 have h6 : usX (L j) = 0 := if_neg (by omega)
 have h7 : usX ((freeE S.es : Int) + 1, false) = 1 := if_pos (by show 0 < (freeE S.es : Int) + 1; omega)
 omega
theorem file_boxes (h : KIn W w a k C) (s : ByteArray) (p : Int) (mk : Bool) (t1 t2 t3 t4 t5 t6 : TypeId) :
  ∃ C', KIn W ((((((w.alloc (.cells #[.pointer (some ⟨a.kb, 0, none⟩)] t1)).alloc (.cells #[.string s] t2)).alloc (.cells #[.int .i64 p] t3)).alloc (.cells #[.bool mk] t4)).alloc (.cells #[.int .i64 0] t5)).alloc (.cells #[.pointer (some ⟨o.ob, 0, none⟩)] t6)) a k C' ∧ FileBox ((((((w.alloc (.cells #[.pointer (some ⟨a.kb, 0, none⟩)] t1)).alloc (.cells #[.string s] t2)).alloc (.cells #[.int .i64 p] t3)).alloc (.cells #[.bool mk] t4)).alloc (.cells #[.int .i64 0] t5)).alloc (.cells #[.pointer (some ⟨o.ob, 0, none⟩)] t6)) a o s p mk w.heap.size (w.heap.size + 1 + 1 + 1 + 1 + 1) (w.heap.size + 1) (w.heap.size + 1 + 1) (w.heap.size + 1 + 1 + 1) (w.heap.size + 1 + 1 + 1 + 1) ∧ C' w.heap.size = (7, 0) ∧ C' (w.heap.size + 1 + 1 + 1 + 1 + 1) = (7, 0) ∧ C' (w.heap.size + 1) = (7, 0) ∧ C' (w.heap.size + 1 + 1) = (7, 0) ∧ C' (w.heap.size + 1 + 1 + 1) = (7, 0) ∧ C' (w.heap.size + 1 + 1 + 1 + 1) = (7, 0) ∧ ∀ j, C j = (7, 0) → C' j = (7, 0) := by
 refine ⟨markF C (fun j => w.heap.size ≤ j ∧ j < w.heap.size + 6) (7, 0), h.marked (((((((Turn.refl _ _).alloc _).alloc _).alloc _).alloc _).alloc _).alloc _) _ (fun j hj => ⟨hj.1, by simp only [World.size_alloc]; omega⟩), ⟨?_, ?_, ?_, ?_, ?_, ?_⟩, markF_in ⟨by omega, by omega⟩, markF_in ⟨by omega, by omega⟩, markF_in ⟨by omega, by omega⟩, markF_in ⟨by omega, by omega⟩, markF_in ⟨by omega, by omega⟩, markF_in ⟨by omega, by omega⟩, fun j hj => ?_⟩
 ·exact box_in rfl ((((((Turn.refl _ _).alloc _).alloc _).alloc _).alloc _).alloc _)
 ·exact box_in (by simp only [World.size_alloc]) (Turn.refl _ _)
 ·exact box_in (by simp only [World.size_alloc]) (((((Turn.refl _ _).alloc _).alloc _).alloc _).alloc _)
 ·exact box_in (by simp only [World.size_alloc]) ((((Turn.refl _ _).alloc _).alloc _).alloc _)
 ·exact box_in (by simp only [World.size_alloc]) (((Turn.refl _ _).alloc _).alloc _)
 ·exact box_in (by simp only [World.size_alloc]) ((Turn.refl _ _).alloc _)
 ·by_cases hp : w.heap.size ≤ j ∧ j < w.heap.size + 6
  ·exact markF_in hp
  ·rw [markF_out hp]; exact hj
theorem results_file {tmps : Array Value} {w : World} {b : Nat} {x v : Value} (ht : tmps[10]?.getD undef = .pointer (some ⟨b, 0, none⟩)) (hv : tmps[11]?.getD undef = v) (h0 : w.cell? ⟨b, 0, none⟩ = some x) :
  (results Tryz.f71 tmps).run Tryz.prog w = .ok (.tuple #[x, v]) w := by
 simp [results, Tryz.results71, ht, hv, go_sem, h0]
def fileTo (o : KO) (S : PS) (L : PTab) (s : ByteArray) (p : Int) (mk : Bool) : Int := if o.m 1 < o.u 1 + 1 then 0 else openK S L s p mk
def KFileTo (W : World) (a : KA) (k : KS) (i : Nat) (o : KO) (y : Nat × PTab) (s : ByteArray) (p : Int) (mk : Bool) (e : Ending) (w' : World) : Prop :=
 e = .returned (.tuple #[.int .i64 (fileTo o k.S y.2 s p mk), TErr (withE o 1 (openE k.S y.2 s p mk))]) ∧ KTo W a k (withE o 1 (openE k.S y.2 s p mk)) (fun k' => k' = fileK k i o y (openS k.S y.2 s p mk) (openL k.S y.2 s p mk) (upd o.u 1 (o.u 1 + 1))) w'
set_option maxHeartbeats 2000000 in
set_option maxRecDepth 100000 in
theorem kfile_keep {Kx : World → Prop} (hx0 : Kx w) (hx : ∀ w1 w2, Kx w1 → Turn (fun j => C j ≠ (7, 0) ∨ w.heap.size ≤ j) w1 w2 → Kx w2) (h : KIn W w a k C) (hok : KOk k) (hm : Mine k pid i o x y) (hLd : Laid W) (s : ByteArray) (hs : s.size < 4294967281) (p : Int) (mk : Bool) :
  Calls Tryz.prog 71 #[.pointer (some ⟨a.kb, 0, none⟩), .int .i64 pid, .string s, .int .i64 p, .bool mk] w (fun e w' => KFileTo W a k i o y s p mk e w' ∧ Kx w') := by
 have HKx := hid hx0
 have Hx := hid hx
 have HW := hid (fun w' (tt : Turn (fun _ => False) w w') => who_yes (h.still tt) hok hm.own hm.ko)
 have H := hid h
 have HTok := hid h.tok
 have HOk := hid hok
 have HM := hid hm
 have HLd := hid hLd
 have HSz := hid hs
 clear h hok hm hLd hs hx0 hx
 go_enter Tryz.func71, Tryz.ntmps71
 go_wp2_with fail
 refine (HW.out _ ?_).mono ?_
 ·exact ((((((Turn.refl _ _).alloc _).alloc _).alloc _).alloc _).alloc _)
 rintro e w1 ⟨rfl, hw⟩; subst w1
 go_wp2_with fail
 obtain ⟨C', hI, hb, g1, g2, g3, g4, g5, g6, hCk⟩ := file_boxes (o := o) H.out s p mk 25 9 3 4 3 107
 have hC := And.intro g1 (And.intro g2 (And.intro g3 (And.intro g4 (And.intro g5 g6))))
 have hlb : ∀ {b : Nat}, C' b = (7, 0) → ¬ b = o.lb := fun h1 => kmark h1 (hI.clb i o HM.out.ko) (by simp)
 have HWi := hid (kwith_is (z := openE k.S y.2 s p mk) (S' := openS k.S y.2 s p mk) (L' := openL k.S y.2 s p mk) hI HOk.out HM.out HLd.out 1 (by omega) (by omega) 152 _ (fun _ _ => rfl)
  (Kp := fun w' => FileBox w' a o s p mk w.heap.size (w.heap.size + 1 + 1 + 1 + 1 + 1) (w.heap.size + 1) (w.heap.size + 1 + 1) (w.heap.size + 1 + 1 + 1) (w.heap.size + 1 + 1 + 1 + 1) ∧ Kx w') (Kq := fun w' => BoxAt w' (w.heap.size + 1 + 1 + 1 + 1) (.int .i64 (openK k.S y.2 s p mk)) ∧ Kx w') ⟨hb, Hx.out _ _ HKx.out ((((((((Turn.refl (fun _ => False) _).alloc _).alloc _).alloc _).alloc _).alloc _).alloc _).mono (fun _ _ h => h.elim))⟩
  (fun w1 w2 ⟨h1, hk⟩ t => ⟨⟨h1.1.turned t (hlb hC.1), h1.2.1.turned t (hlb hC.2.1), h1.2.2.1.turned t (hlb hC.2.2.1), h1.2.2.2.1.turned t (hlb hC.2.2.2.1), h1.2.2.2.2.1.turned t (hlb hC.2.2.2.2.1), h1.2.2.2.2.2.turned t (hlb hC.2.2.2.2.2)⟩, Hx.out _ _ hk (t.mono (fun j _ e => .inl (by rw [e, H.out.clb i o HM.out.ko]; simp)))⟩)
  (fun w1 w2 ⟨h1, hk⟩ t => ⟨h1.turned t (hlb hC.2.2.2.2.2), Hx.out _ _ hk (t.mono (fun j _ e => .inl (by rw [e, H.out.clb i o HM.out.ko]; simp)))⟩)
  (fun w5 h5 ⟨hb5, hk5⟩ => kfile1_is hk5 (fun w1 w2 h1 t => Hx.out _ _ h1 (t.mono (fun j _ e => e.imp (fun hn h7 => hn (hCk j h7)) (fun e => by omega)))) h5 HOk.out HM.out HLd.out s HSz.out p mk hb5 hC ⟨by omega, by omega, by omega, by omega, by omega⟩))
 have HC := hid hC
 clear hI hb hC hlb g1 g2 g3 g4 g5 g6 hCk
 refine HWi.out.mono ?_
 rintro e w5 ⟨rfl, hcs⟩
 have HK5x := hid (show Kx w5 from by
  rcases hcs with ⟨_, _, h2⟩ | ⟨_, _, h2⟩
  ·exact h2.2
  ·exact h2.2)
 obtain ⟨k', hI5, hb5, hok5⟩ : ∃ k', KIn W w5 a k' C' ∧ BoxAt w5 (w.heap.size + 1 + 1 + 1 + 1) (.int .i64 (fileTo o k.S y.2 s p mk)) ∧ (∀ w6, KIs W w6 a k' → KTo W a k (withE o 1 (openE k.S y.2 s p mk)) (fun k' => k' = fileK k i o y (openS k.S y.2 s p mk) (openL k.S y.2 s p mk) (upd o.u 1 (o.u 1 + 1))) w6) := by
  rcases hcs with ⟨hlim, h1, h2⟩ | ⟨hlim, h1, h2⟩
  ·refine ⟨_, h1, by rw [show fileTo o k.S y.2 s p mk = 0 from if_pos hlim]; exact h2.1.2.2.2.2.2, fun w6 h6 => KTo.no h6 HOk.out ?_⟩
   rw [show withE o 1 (openE k.S y.2 s p mk) = 4 from if_pos hlim]; decide
  ·refine ⟨_, h1, by rw [show fileTo o k.S y.2 s p mk = openK k.S y.2 s p mk from if_neg hlim]; exact h2.1, fun w6 h6 => ?_⟩
   rw [show withE o 1 (openE k.S y.2 s p mk) = openE k.S y.2 s p mk from if_neg hlim]
   by_cases hz : openE k.S y.2 s p mk = 0
   ·rw [if_pos hz] at h6
    have hf := (HOk.out.fit i o HM.out.ko).1
    have hlv := (HOk.out.live i o x y HM.out.ko HM.out.sp HM.out.tab ⟨pid, HM.out.own⟩).2.1
    obtain ⟨hd6, hj6⟩ := joint_open HOk.out.joint HOk.out.dok HTok.out HM.out.tab s p mk
    refine ⟨_, h6, HOk.out.file HM.out hd6 hj6 ⟨upd_other _ _ (by decide), ?_, upd_other _ _ (by decide)⟩ (fit_one hf hlim), fun _ => rfl, fun e => absurd hz e⟩
    show upd o.u 1 (o.u 1 + 1) 1 = _
    rw [upd_same, hlv, usedL_open hz HOk.out.dok]
    omega
   ·rw [if_neg hz] at h6
    exact fileK_err HM.out h6 HOk.out (open_err hz).1 (if_neg hz) hz
 have HI5 := hid hI5
 have HO5 := hid hok5
 have r1 := hb5.1
 have r2 := hb5.2
 clear hcs hI5 hb5 hok5
 go_wp2_with fail
 have r3 : (w5.setCell ⟨w.heap.size + 1 + 1 + 1 + 1, 0, none⟩ (.int .i64 (fileTo o k.S y.2 s p mk))).cell? ⟨w.heap.size + 1 + 1 + 1 + 1, 0, none⟩ = some (.int .i64 (fileTo o k.S y.2 s p mk)) := World.cell?_setCell_same _ _ _ r1
 (try simp only [Exit.inBlock, Exit.then])
 refine bodyPost_ret (results_file rfl rfl r3) rfl ?_
 exact ⟨⟨rfl, HO5.out _ ⟨_, HI5.out.seven ((turn_own (w.heap.size + 1 + 1 + 1 + 1) _ 0 _).mono (fun j _ e => by rw [e]; exact HC.out.2.2.2.2.2))⟩⟩, Hx.out _ _ HK5x.out ((turn_own (w.heap.size + 1 + 1 + 1 + 1) _ 0 _).mono (fun j _ e => .inr (by omega)))⟩
end
end Go.Proofs.YtamleilijmgoeaaGreatDoor
namespace Go.Proofs.YtamleilijmgoeaaGreatDoor
open Go.RowKit
set_option linter.unusedVariables false
section
variable {W w w' w1 : World} {a : KA} {k : KS} {C C' : Nat → Nat × Nat} {pid : Int} {i j : Nat} {o o' : KO} {x : Spc} {y : Nat × PTab} {S S' : PS} {L L' L0 : PTab} {ts : List (Nat × PTab)} {tab : Nat} {t' : St} {u' v' : Nat → Int} {e : PE} {n : Int}
theorem BoxAt.same {b : Nat} {v z : Value} (h : BoxAt w b v) : BoxAt (w.setCell ⟨b, 0, none⟩ z) b z := ⟨World.cell?_setCell_same _ _ _ h.1, by rw [World.frozen?_setCell]; exact h.2⟩
theorem BoxAt.other {b c : Nat} {v z : Value} (h : BoxAt w b v) (hn : b ≠ c) : BoxAt (w.setCell ⟨c, 0, none⟩ z) b v := h.turned (turn_own c _ 0 _) hn
theorem seven_two {b c : Nat} {v v' z z' : Value} (h : KIn W w a k C) (hb : BoxAt w b v) (hc : BoxAt w c v') (h1 : C b = (7, 0)) (h2 : C c = (7, 0)) (hn : b ≠ c) :
  KIn W ((w.setCell ⟨b, 0, none⟩ z).setCell ⟨c, 0, none⟩ z') a k C ∧ BoxAt ((w.setCell ⟨b, 0, none⟩ z).setCell ⟨c, 0, none⟩ z') b z ∧ BoxAt ((w.setCell ⟨b, 0, none⟩ z).setCell ⟨c, 0, none⟩ z') c z' :=
 ⟨(h.seven ((turn_own b w 0 z).mono (fun j _ e => by rw [e]; exact h1))).seven ((turn_own c _ 0 z').mono (fun j _ e => by rw [e]; exact h2)), hb.same.other hn, (hc.other (fun e => hn e.symm)).same⟩
def PipeBox (w : World) (a : KA) (o : KO) (bk bo bt bu : Nat) : Prop := BoxAt w bk (.pointer (some ⟨a.kb, 0, none⟩)) ∧ BoxAt w bo (.pointer (some ⟨o.ob, 0, none⟩)) ∧ BoxAt w bt (.int .i64 0) ∧ BoxAt w bu (.int .i64 0)
set_option maxHeartbeats 2000000 in
set_option maxRecDepth 100000 in
theorem kpipe1_is {bk bo bt bu : Nat} (h : KIn W w a (fileK k i o y k.S y.2 u') C) (hok : KOk k) (hm : Mine k pid i o x y) (hb : PipeBox w a o bk bo bt bu) (hC : C bk = (7, 0) ∧ C bo = (7, 0) ∧ C bt = (7, 0) ∧ C bu = (7, 0)) (hN : bt ≠ bk ∧ bt ≠ bo ∧ bu ≠ bk ∧ bu ≠ bo ∧ bt ≠ bu) :
  Calls Tryz.prog 54 #[.pointer (some ⟨bk, 0, none⟩), .pointer (some ⟨bo, 0, none⟩), .pointer (some ⟨bt, 0, none⟩), .pointer (some ⟨bu, 0, none⟩)] w (FnDoes W a k i o y (pipeE k.S y.2) (pipedS k.S y.2) (pipedL k.S y.2) u' C (fun w' => BoxAt w' bt (.int .i64 (pipeK1 k.S y.2)) ∧ BoxAt w' bu (.int .i64 (pipeK2 k.S y.2)))) := by
 have hd := h.drewS
 have hO2 := hd.there hm
 obtain ⟨b1, b2, b3, b4⟩ := hb
 have tw : Turn (fun _ => False) w w.drew := (Turn.refl _ _).drew
 have q1 := (b1.turned tw id).1
 have q2 := hd.c2
 have q3 := (b2.turned tw id).1
 have q4 := hO2.c1
 have HP := hid (law_pipe hd.desc hok.dok (mine_file (S' := k.S) (L' := y.2) (u' := u') hm).tab)
 have HD := hid hd
 have HM := hid hm
 have HC := hid hC
 have HB := hid (show BoxAt w.drew bk _ ∧ BoxAt w.drew bo _ ∧ BoxAt w.drew bt _ ∧ BoxAt w.drew bu _ from ⟨b1.turned tw id, b2.turned tw id, b3.turned tw id, b4.turned tw id⟩)
 have n1 := hN.1
 have n2 := hN.2.1
 have n3 := hN.2.2.1
 have n4 := hN.2.2.2.1
 have n9 := hN.2.2.2.2
 have n5 : bt ≠ a.kb := kmark hC.2.2.1 h.ckb (by decide)
 have n6 : bu ≠ a.kb := kmark hC.2.2.2 h.ckb (by decide)
 have h5 := h.cob i _ (mine_file (S' := k.S) (L' := y.2) (u' := u') hm).ko
 have n7 : bt ≠ o.ob := kmark hC.2.2.1 h5 (by simp)
 have n8 : bu ≠ o.ob := kmark hC.2.2.2 h5 (by simp)
 clear h hok hm hd hO2 hN b1 b2 b3 b4 tw hC h5
 go_enter Tryz.func54, Tryz.ntmps54
 go_wp2_with fail
 go_region_held3 (fun w' => w'.cell? ⟨bk, 0, none⟩ = some (.pointer (some ⟨a.kb, 0, none⟩)) ∧ w'.cell? ⟨a.kb, 2, none⟩ = some (.pointer (some ⟨a.fb, 0, none⟩)) ∧ w'.cell? ⟨bo, 0, none⟩ = some (.pointer (some ⟨o.ob, 0, none⟩)) ∧ w'.cell? ⟨o.ob, 1, none⟩ = some (.pointer (some ⟨y.1, 0, none⟩)))
  (first | exact ⟨q1, q2, q3, q4⟩ | exact ⟨r1, r2, r3, r4⟩ | (refine ⟨?_, ?_, ?_, ?_⟩ <;> (repeat rw [World.cell?_setCell_other _ _ _ _ (by intro e; injection e with e; omega)]) <;> assumption) | go_keep)
  (first | (go_at_call 55; refine HP.out.mono ?_; rintro e w4 ⟨rfl, hd4⟩; have hI4 := HD.out.fileIn HM.out hd4; have hT4 := hd4.turn; have HI4 := hid hI4; have r2 := hI4.c2; have r4 := (hI4.at_ (mine_file HM.out)).1.c1; have r1 := (HB.out.1.turned hT4 (fun hn => hn (.inr (by rw [HC.out.1]; decide)))).1; have r3 := (HB.out.2.1.turned hT4 (fun hn => hn (.inr (by rw [HC.out.2.1]; decide)))).1; have hb4 := (HB.out.2.2.1.turned hT4 (fun hn => hn (.inr (by rw [HC.out.2.2.1]; decide)))); have hb5 := (HB.out.2.2.2.turned hT4 (fun hn => hn (.inr (by rw [HC.out.2.2.2]; decide)))); have r6 := hb4.1; have r7 := hb4.2; have r8 := hb5.1; have r9 := hb5.2; simp only at r4; clear hd4 hI4 hT4 hb4 hb5))
 all_goals go_wp2_with fail
 all_goals go_returns
 all_goals first
  | (obtain ⟨g1, g2, g3⟩ := seven_two (z := .int .i64 (pipeK1 k.S y.2)) (z' := .int .i64 (pipeK2 k.S y.2)) HI4.out ⟨r6, r7⟩ ⟨r8, r9⟩ HC.out.2.2.1 HC.out.2.2.2 n9; exact ⟨rfl, g1, g2, g3⟩)
  | (obtain ⟨g1, g2, g3⟩ := seven_two (z := .int .i64 (pipeK2 k.S y.2)) (z' := .int .i64 (pipeK1 k.S y.2)) HI4.out ⟨r8, r9⟩ ⟨r6, r7⟩ HC.out.2.2.2 HC.out.2.2.1 (Ne.symm n9); exact ⟨rfl, g1, g3, g2⟩)
theorem usedL_pipe (hE : pipeE S L = 0) (hp : ∀ m, m < 8 → 0 ≤ (L m).1) : usedL (pipedL S L) = usedL L + 2 := by
 unfold pipedL
 rw [if_pos hE]
 have hu : ¬ (6 < usedL L ∨ 38 < S.es.length) := fun e => by unfold pipeE at hE; rw [if_pos e] at hE; cases hE
 obtain ⟨j, hl, hj, hjz⟩ := least_room hp (by omega)
 have e1 : pipeL1 S L = tset L j ((freeE S.es : Int) + 1, false) := by unfold pipeL1; rw [show (leastL L).toNat = j by omega]
 have h5 := usedL_set (L := L) (j := j) (x := ((freeE S.es : Int) + 1, false)) hj
 have h6 : usX (L j) = 0 := if_neg (by omega)
 have h7 : usX ((freeE S.es : Int) + 1, false) = 1 := if_pos (by show 0 < (freeE S.es : Int) + 1; omega)
 rw [← e1] at h5
 have hp1 : ∀ m, m < 8 → 0 ≤ (pipeL1 S L m).1 := fun m hm => by
  rw [e1]
  unfold tset
  by_cases h : m = j
  ·rw [if_pos h]; show 0 ≤ (freeE S.es : Int) + 1; omega
  ·rw [if_neg h]; exact hp m hm
 obtain ⟨q, hl2, hq, hqz⟩ := least_room hp1 (by omega)
 unfold pipeL2
 rw [show (leastL (pipeL1 S L)).toNat = q by omega]
 have h8 := usedL_set (L := pipeL1 S L) (j := q) (x := ((freeE (pipeS1 S).es : Int) + 1, false)) hq
 have h9 : usX (pipeL1 S L q) = 0 := if_neg (by omega)
 have h10 : usX ((freeE (pipeS1 S).es : Int) + 1, false) = 1 := if_pos (by show 0 < (freeE (pipeS1 S).es : Int) + 1; omega)
 omega
theorem fit_two (hf : Fit o.u o.m) (hlim : ¬ o.m 1 < o.u 1 + 2) : Fit (upd o.u 1 (o.u 1 + 2)) o.m := fun j hj => by
 have h3 := hf j hj
 have h4 := hf 1 (by omega)
 by_cases e : j = 1
 ·subst e; rw [upd_same]; exact ⟨by omega, by omega, h3.2.2⟩
 ·rw [upd_other _ _ e]; exact h3
theorem pipe_boxes (h : KIn W w a k C) (t1 t2 t3 t4 : TypeId) :
  ∃ C', KIn W ((((w.alloc (.cells #[.pointer (some ⟨a.kb, 0, none⟩)] t1)).alloc (.cells #[.int .i64 0] t2)).alloc (.cells #[.int .i64 0] t3)).alloc (.cells #[.pointer (some ⟨o.ob, 0, none⟩)] t4)) a k C' ∧ PipeBox ((((w.alloc (.cells #[.pointer (some ⟨a.kb, 0, none⟩)] t1)).alloc (.cells #[.int .i64 0] t2)).alloc (.cells #[.int .i64 0] t3)).alloc (.cells #[.pointer (some ⟨o.ob, 0, none⟩)] t4)) a o w.heap.size (w.heap.size + 1 + 1 + 1) (w.heap.size + 1) (w.heap.size + 1 + 1) ∧ C' w.heap.size = (7, 0) ∧ C' (w.heap.size + 1 + 1 + 1) = (7, 0) ∧ C' (w.heap.size + 1) = (7, 0) ∧ C' (w.heap.size + 1 + 1) = (7, 0) := by
 refine ⟨markF C (fun j => w.heap.size ≤ j ∧ j < w.heap.size + 4) (7, 0), h.marked (((((Turn.refl _ _).alloc _).alloc _).alloc _).alloc _) _ (fun j hj => ⟨hj.1, by simp only [World.size_alloc]; omega⟩), ⟨?_, ?_, ?_, ?_⟩, markF_in ⟨by omega, by omega⟩, markF_in ⟨by omega, by omega⟩, markF_in ⟨by omega, by omega⟩, markF_in ⟨by omega, by omega⟩⟩
 ·exact box_in rfl ((((Turn.refl _ _).alloc _).alloc _).alloc _)
 ·exact box_in (by simp only [World.size_alloc]) (Turn.refl _ _)
 ·exact box_in (by simp only [World.size_alloc]) (((Turn.refl _ _).alloc _).alloc _)
 ·exact box_in (by simp only [World.size_alloc]) ((Turn.refl _ _).alloc _)
theorem results_pipe {tmps : Array Value} {w : World} {b c : Nat} {x y v : Value} (ht : tmps[4]?.getD undef = .pointer (some ⟨b, 0, none⟩)) (hu : tmps[5]?.getD undef = .pointer (some ⟨c, 0, none⟩)) (hv : tmps[6]?.getD undef = v) (h0 : w.cell? ⟨b, 0, none⟩ = some x) (h1 : w.cell? ⟨c, 0, none⟩ = some y) :
  (results Tryz.f13 tmps).run Tryz.prog w = .ok (.tuple #[x, y, v]) w := by
 simp [results, Tryz.results13, ht, hu, hv, go_sem, h0, h1]
def pipeTo1 (o : KO) (S : PS) (L : PTab) : Int := if o.m 1 < o.u 1 + 2 then 0 else pipeK1 S L
def pipeTo2 (o : KO) (S : PS) (L : PTab) : Int := if o.m 1 < o.u 1 + 2 then 0 else pipeK2 S L
def KPipeTo (W : World) (a : KA) (k : KS) (i : Nat) (o : KO) (y : Nat × PTab) (e : Ending) (w' : World) : Prop :=
 e = .returned (.tuple #[.int .i64 (pipeTo1 o k.S y.2), .int .i64 (pipeTo2 o k.S y.2), TErr (withE o 2 (pipeE k.S y.2))]) ∧ KTo W a k (withE o 2 (pipeE k.S y.2)) (fun k' => k' = fileK k i o y (pipedS k.S y.2) (pipedL k.S y.2) (upd o.u 1 (o.u 1 + 2))) w'
set_option maxHeartbeats 2000000 in
set_option maxRecDepth 100000 in
theorem kpipe_yes (h : KIn W w a k C) (hok : KOk k) (hm : Mine k pid i o x y) (hLd : Laid W) :
  Calls Tryz.prog 13 #[.pointer (some ⟨a.kb, 0, none⟩), .int .i64 pid] w (fun e w' => KPipeTo W a k i o y e w') := by
 have HW := hid (fun w' (tt : Turn (fun _ => False) w w') => who_yes (h.still tt) hok hm.own hm.ko)
 have H := hid h
 have HOk := hid hok
 have HM := hid hm
 have HLd := hid hLd
 clear h hok hm hLd
 go_enter Tryz.func13, Tryz.ntmps13
 go_wp2_with fail
 refine (HW.out _ ?_).mono ?_
 ·exact ((((Turn.refl _ _).alloc _).alloc _).alloc _)
 rintro e w1 ⟨rfl, hw⟩; subst w1
 go_wp2_with fail
 obtain ⟨C', hI, hb, hC⟩ := pipe_boxes (o := o) H.out 25 3 3 107
 have hlb : ∀ {b : Nat}, C' b = (7, 0) → ¬ b = o.lb := fun h1 => kmark h1 (hI.clb i o HM.out.ko) (by simp)
 have HWi := hid (kwith_is (z := pipeE k.S y.2) (S' := pipedS k.S y.2) (L' := pipedL k.S y.2) hI HOk.out HM.out HLd.out 2 (by omega) (by omega) 54 _ (fun _ _ => rfl)
  (Kp := fun w' => PipeBox w' a o w.heap.size (w.heap.size + 1 + 1 + 1) (w.heap.size + 1) (w.heap.size + 1 + 1)) (Kq := fun w' => BoxAt w' (w.heap.size + 1) (.int .i64 (pipeK1 k.S y.2)) ∧ BoxAt w' (w.heap.size + 1 + 1) (.int .i64 (pipeK2 k.S y.2))) hb
  (fun w1 w2 h1 t => ⟨h1.1.turned t (hlb hC.1), h1.2.1.turned t (hlb hC.2.1), h1.2.2.1.turned t (hlb hC.2.2.1), h1.2.2.2.turned t (hlb hC.2.2.2)⟩)
  (fun w1 w2 h1 t => ⟨h1.1.turned t (hlb hC.2.2.1), h1.2.turned t (hlb hC.2.2.2)⟩)
  (fun w5 h5 hb5 => kpipe1_is h5 HOk.out HM.out hb5 hC ⟨by omega, by omega, by omega, by omega, by omega⟩))
 have HC := hid hC
 clear hI hb hC hlb
 refine HWi.out.mono ?_
 rintro e w5 ⟨rfl, hcs⟩
 obtain ⟨k', hI5, hb5, hc5, hok5⟩ : ∃ k', KIn W w5 a k' C' ∧ BoxAt w5 (w.heap.size + 1) (.int .i64 (pipeTo1 o k.S y.2)) ∧ BoxAt w5 (w.heap.size + 1 + 1) (.int .i64 (pipeTo2 o k.S y.2)) ∧ (∀ w6, KIs W w6 a k' → KTo W a k (withE o 2 (pipeE k.S y.2)) (fun k' => k' = fileK k i o y (pipedS k.S y.2) (pipedL k.S y.2) (upd o.u 1 (o.u 1 + 2))) w6) := by
  rcases hcs with ⟨hlim, h1, h2⟩ | ⟨hlim, h1, h2⟩
  ·refine ⟨_, h1, by rw [show pipeTo1 o k.S y.2 = 0 from if_pos hlim]; exact h2.2.2.1, by rw [show pipeTo2 o k.S y.2 = 0 from if_pos hlim]; exact h2.2.2.2, fun w6 h6 => KTo.no h6 HOk.out ?_⟩
   rw [show withE o 2 (pipeE k.S y.2) = 4 from if_pos hlim]; decide
  ·refine ⟨_, h1, by rw [show pipeTo1 o k.S y.2 = pipeK1 k.S y.2 from if_neg hlim]; exact h2.1, by rw [show pipeTo2 o k.S y.2 = pipeK2 k.S y.2 from if_neg hlim]; exact h2.2, fun w6 h6 => ?_⟩
   rw [show withE o 2 (pipeE k.S y.2) = pipeE k.S y.2 from if_neg hlim]
   by_cases hz : pipeE k.S y.2 = 0
   ·rw [if_pos hz] at h6
    have hf := (HOk.out.fit i o HM.out.ko).1
    have hlv := (HOk.out.live i o x y HM.out.ko HM.out.sp HM.out.tab ⟨pid, HM.out.own⟩).2.1
    obtain ⟨hd6, hj6⟩ := joint_pipe HOk.out.joint HOk.out.dok HM.out.tab
    refine ⟨_, h6, HOk.out.file HM.out hd6 hj6 ⟨upd_other _ _ (by decide), ?_, upd_other _ _ (by decide)⟩ (fit_two hf hlim), fun _ => rfl, fun e => absurd hz e⟩
    show upd o.u 1 (o.u 1 + 2) 1 = _
    rw [upd_same, hlv, usedL_pipe hz (fun m hm => (HOk.out.joint.pos i _ HM.out.tab m hm).1)]
    omega
   ·rw [if_neg hz] at h6
    exact fileK_err HM.out h6 HOk.out (if_neg hz) (if_neg hz) hz
 have HI5 := hid hI5
 have HO5 := hid hok5
 have r1 := hb5.1
 have r2 := hb5.2
 have r3 := hc5.1
 have r4 := hc5.2
 have HG := hid (seven_two (z := .int .i64 (pipeTo1 o k.S y.2)) (z' := .int .i64 (pipeTo2 o k.S y.2)) hI5 hb5 hc5 HC.out.2.2.1 HC.out.2.2.2 (by omega))
 clear hcs hI5 hb5 hc5 hok5 HI5
 go_wp2_with fail
 go_region
 all_goals go_wp2_with fail
 (try simp only [Exit.inBlock, Exit.then])
 have g1 : (((w5.setCell ⟨w.heap.size + 1, 0, none⟩ (.int .i64 (pipeTo1 o k.S y.2))).setCell ⟨w.heap.size + 1 + 1, 0, none⟩ (.int .i64 (pipeTo2 o k.S y.2))).drew).cell? ⟨w.heap.size + 1, 0, none⟩ = some (.int .i64 (pipeTo1 o k.S y.2)) := HG.out.2.1.1
 have g2 : (((w5.setCell ⟨w.heap.size + 1, 0, none⟩ (.int .i64 (pipeTo1 o k.S y.2))).setCell ⟨w.heap.size + 1 + 1, 0, none⟩ (.int .i64 (pipeTo2 o k.S y.2))).drew).cell? ⟨w.heap.size + 1 + 1, 0, none⟩ = some (.int .i64 (pipeTo2 o k.S y.2)) := HG.out.2.2.1
 refine bodyPost_ret (results_pipe rfl rfl rfl g1 g2) rfl ?_
 exact ⟨rfl, HO5.out _ ⟨_, HG.out.1.drewS⟩⟩
end
end Go.Proofs.YtamleilijmgoeaaGreatDoor
namespace Go.Proofs.YtamleilijmgoeaaGreatDoor
open Go.RowKit
set_option linter.unusedVariables false
section
variable {W w w' w1 : World} {a : KA} {k : KS} {C C' : Nat → Nat × Nat} {pid : Int} {i j : Nat} {o o' : KO} {x : Spc} {y : Nat × PTab} {S S' : PS} {L L' L0 : PTab} {ts : List (Nat × PTab)} {tab : Nat} {t' : St} {u' u m : Nat → Int} {e : PE} {n to_ : Int}
theorem usedL_dup2 (hp : ∀ j, j < 8 → 0 ≤ (L j).1) (hE : dup2E S L n to_ = 0) : (usedL (dup2L S L n to_) : Int) = usedL L + (if slotL L to_ = none then 1 else 0) ∧ (slotL L n).isSome = true ∧ 0 ≤ to_ ∧ to_ < 8 := by
 have hE2 := hE
 unfold dup2E at hE2
 cases hx : entL S L n with
 | none => rw [hx] at hE2; cases hE2
 | some z =>
  obtain ⟨k, e⟩ := z
  obtain ⟨g1, g2, g3, g4, _⟩ := entL_slot hx
  have hs := (entL_some hx).1
  rw [hx] at hE2
  simp only [Option.elim] at hE2
  have ht : 0 ≤ to_ ∧ to_ < 8 := by
   by_cases h : to_ < 0 ∨ 8 ≤ to_
   ·rw [if_pos h] at hE2; cases hE2
   ·omega
  refine ⟨?_, by rw [hs]; rfl, ht⟩
  by_cases hne : n = to_
  ·subst hne
   have e1 : dup2L S L n n = L := if_neg (fun h => h.2 rfl)
   rw [e1, if_neg (by rw [hs]; simp)]; omega
  ·have e1 : dup2L S L n to_ = tset (closeL (bumpE S L n) L to_) to_.toNat ((L n.toNat).1, false) := if_pos ⟨hE, hne⟩
   have hjl : to_.toNat < 8 := by omega
   have u1 := usedL_set (L := closeL (bumpE S L n) L to_) (j := to_.toNat) (x := ((L n.toNat).1, false)) hjl
   have ux : usX (((L n.toNat).1, false) : Int × Bool) = 1 := by
    unfold usX
    have := hp n.toNat (by omega)
    rw [if_pos (by simp only; omega)]
   rw [ux] at u1
   rw [e1]
   cases hs2 : slotL L to_ with
   | none =>
    have hz : (L to_.toNat).1 = 0 := by
     unfold slotL at hs2
     by_cases hz : (L to_.toNat).1 = 0
     ·exact hz
     ·rw [if_pos ⟨ht.1, ht.2, hz⟩] at hs2; cases hs2
    have e2 : closeL (bumpE S L n) L to_ = L := by
     unfold closeL entL
     rw [hs2]; rfl
    rw [e2] at u1 ⊢
    have uz : usX (L to_.toNat) = 0 := by unfold usX; rw [if_neg (by omega)]
    rw [uz] at u1
    rw [if_pos rfl]
    omega
   | some k2 =>
    have hz := (slotL_some hs2).2.2.1
    have uz : usX (L to_.toNat) = 1 := by
     unfold usX
     have := hp to_.toNat hjl
     rw [if_pos (by omega)]
    rw [if_neg (by simp)]
    unfold closeL at u1 ⊢
    cases hx2 : entL (bumpE S L n) L to_ with
    | none =>
     rw [hx2] at u1
     simp only [Option.elim] at u1 ⊢
     omega
    | some z2 =>
     rw [hx2] at u1
     simp only [Option.elim] at u1 ⊢
     have u2 := usedL_set (L := L) (j := to_.toNat) (x := (0, false)) hjl
     have u3 : usX ((0 : Int), false) = 0 := rfl
     rw [tset_self, u3] at u1
     rw [uz, u3] at u2
     omega
theorem done_back : done (done u ((1 : Int), (1 : Int))) ((1 : Int), -1) = u := by
 funext j
 unfold done upd
 by_cases e : j = 1
 ·subst e; simp; omega
 ·simp [e]
def dup2KE (o : KO) (S : PS) (L : PTab) (n to_ : Int) : Int := if o.m 1 < o.u 1 + 1 ∧ slotL L to_ = none ∧ slotL L n ≠ none ∧ 0 ≤ to_ ∧ to_ < 8 then 4 else dup2E S L n to_
def Dup2To (W : World) (a : KA) (k : KS) (i : Nat) (o : KO) (y : Nat × PTab) (n to_ : Int) (e : Ending) (w' : World) : Prop :=
 e = .returned (TErr (dup2KE o k.S y.2 n to_)) ∧ KTo W a k (dup2KE o k.S y.2 n to_) (fun k' => k' = fileK k i o y (dup2S k.S y.2 n to_) (dup2L k.S y.2 n to_) (upd o.u 1 (usedL (dup2L k.S y.2 n to_)))) w'
/-! ### the walk -/
set_option maxHeartbeats 4000000 in
set_option maxRecDepth 100000 in
theorem kdup2_room (h : KIn W w a k C) (hok : KOk k) (hm : Mine k pid i o x y) (hLd : Laid W) (n to_ : Int) (hlim : ¬ o.m 1 < o.u 1 + 1) :
  Calls Tryz.prog 73 #[.pointer (some ⟨a.kb, 0, none⟩), .int .i64 pid, .int .i64 n, .int .i64 to_] w (fun e w' => Dup2To W a k i o y n to_ e w') := by
 have HW := hid (who_yes h hok hm.own hm.ko)
 obtain ⟨hO, hL⟩ := h.at_ hm
 have HUs := hid (used_is (h.desc.tabs i y hm.tab).1)
 have c1 := hO.c1
 have c2 := hO.c2
 have HLg := hid hL
 have H := hid h
 have HOk := hid hok
 have HM := hid hm
 have HLd := hid hLd
 have HTok := hid h.tok
 have HLm := hid hlim
 have hwy : why o.u o.m ((1 : Int), (1 : Int)) = if 0 < (1 : Int) ∧ o.m 1 < o.u 1 + 1 then 4 else 0 := why_more (hok.fit i o hm.ko).1 1 (by omega) 1 (by omega) (by omega)
 have HWy1 := hid hwy
 clear h hok hm hLd hlim hO hL hwy
 unfold Dup2To
 go_enter Tryz.func73, Tryz.ntmps73
 go_wp2_with fail
 refine HW.out.mono ?_
 rintro e w1 ⟨rfl, hw⟩; subst w1
 go_wp2_with fail
 refine HUs.out.mono ?_
 rintro e w2 ⟨rfl, t2⟩
 have c2' := (t2.cell (lt_of_cell c2) id).trans c2
 have hcg := charge_one (kind := 1) (n := 1) (HLg.out.turned t2 id) (HOk.out.fit i o HM.out.ko).1
 unfold Charged1 at hcg
 have HCg := hid hcg
 have HK2 := hid (H.out.still t2)
 clear hcg t2 c1 c2 HLg
 go_wp2_with fail
 refine HCg.out.mono ?_
 rintro e w5 (⟨_, rfl, hl5, hf5, t5⟩ | ⟨hne, _⟩)
 rotate_left
 ·rw [HWy1.out, if_neg (fun e => by have := HLm.out; have := e.2; omega)] at hne; exact absurd rfl hne
 obtain ⟨C5, hK5⟩ := HK2.out.ledger HM.out.ko hl5 t5
 have hm5 : Mine { k with os := k.os.set i { o with u := done o.u ((1 : Int), (1 : Int)), m := o.m } } pid i { o with u := done o.u ((1 : Int), (1 : Int)), m := o.m } x y := ⟨HM.out.own, set_at HM.out.ko, HM.out.sp, HM.out.tab⟩
 have hA5 := hK5.at_ hm5
 have td : Turn (fun _ => False) w5 w5.drew := (Turn.refl _ _).drew
 have c25 := (td.cell (lt_of_cell hA5.1.c2) id).trans hA5.1.c2
 simp only at c25
 have hl5' := hA5.2.turned td id
 simp only at hl5'
 have hcg2 := charge_one (kind := 1) (n := -1) hl5' hf5
 unfold Charged1 at hcg2
 have HCg2 := hid hcg2
 have hw2 : why (done o.u ((1 : Int), (1 : Int))) o.m ((1 : Int), -1) = 0 := by
  refine why_less hf5 1 (by omega) 1 (by omega) ?_
  have h7 := ((HOk.out.fit i o HM.out.ko).1 1 (by omega)).1
  have h8 : done o.u ((1 : Int), (1 : Int)) 1 = o.u 1 + 1 := upd_same _ _ _
  omega
 have HWy2 := hid hw2
 have HK5 := hid hK5
 have HM5 := hid hm5
 have HTd := hid td
 clear hl5 hf5 t5 hK5 hm5 hA5 hl5' hcg2 hw2 c2' td
 go_upto_region 6 with fail
 refine wp_region_held_drew (S := fun w' => Turn (fun _ => False) w5 w') (by kernel_rfl) ((Turn.refl _ _).drew) (fun hHeld => ?_)
 refine wpAnyH_take (i := 0) (oi := ({ dst := some 35, op := Op.move (Operand.tmp 12), type := 27, pos := "files.go:55", after := #[], guard := none } : Oper)) (v := ?v0r) rfl (by kernel_rfl) (by kernel_rfl) (by kernel_rfl) (fun _ _ _ h => h) (Or.inl ⟨by rfl, ?y0r⟩) (by assumption) ?r0r
 case y0r => ((intro w hSw; (try dsimp only at hSw); go_simp) <;> with_reducible rfl)
 try simp only [Act.put, List.setIfInBounds_toArray, List.set_cons_zero, List.set_cons_succ]
 refine wpAnyH_take (i := 1) (oi := ({ dst := some 36, op := Op.binOp BinOp.neq 27 (Operand.tmp 35) (Operand.const Value.nilIface) 27, type := 4, pos := "files.go:55", after := #[{ on := 0, ground := Ground.data }], guard := none } : Oper)) (v := ?v1r) rfl (by kernel_rfl) (by kernel_rfl) (by kernel_rfl) (fun _ _ _ h => h) (Or.inl ⟨by rfl, ?y1r⟩) (by assumption) ?r1r
 case y1r => ((intro w hSw; (try dsimp only at hSw); go_simp) <;> with_reducible rfl)
 try simp only [Act.put, List.setIfInBounds_toArray, List.set_cons_zero, List.set_cons_succ]
 refine wpAnyH_take (i := 2) (oi := ({ dst := some 37, op := Op.move (Operand.tmp 36), type := 4, pos := "files.go:55", after := #[{ on := 1, ground := Ground.data }], guard := none } : Oper)) (v := ?v2r) rfl (by kernel_rfl) (by kernel_rfl) (by kernel_rfl) (fun _ _ _ h => h) (Or.inl ⟨by rfl, ?y2r⟩) (by assumption) ?r2r
 case y2r => ((intro w hSw; (try dsimp only at hSw); go_simp) <;> with_reducible rfl)
 try simp only [Act.put, List.setIfInBounds_toArray, List.set_cons_zero, List.set_cons_succ]
 refine wpAnyH_take (i := 3) (oi := ({ dst := some 38, op := Op.move (Operand.tmp 0), type := 25, pos := "files.go:55", after := #[{ on := 2, ground := Ground.guard }], guard := some (2, true) } : Oper)) (v := undef) rfl (by kernel_rfl) (by kernel_rfl) (by kernel_rfl) (fun _ _ _ h => h) (Or.inr ⟨by rfl, rfl⟩) (by assumption) ?_
 try simp only [Act.put, List.setIfInBounds_toArray, List.set_cons_zero, List.set_cons_succ]
 refine wpAnyH_take (i := 4) (oi := ({ dst := some 39, op := Op.nilCheck (Operand.tmp 38), type := 0, pos := "files.go:55", after := #[{ on := 3, ground := Ground.data }, { on := 2, ground := Ground.guard }], guard := some (2, true) } : Oper)) (v := undef) rfl (by kernel_rfl) (by kernel_rfl) (by kernel_rfl) (fun _ _ _ h => h) (Or.inr ⟨by rfl, rfl⟩) (by assumption) ?_
 try simp only [Act.put, List.setIfInBounds_toArray, List.set_cons_zero, List.set_cons_succ]
 refine wpAnyH_take (i := 5) (oi := ({ dst := some 40, op := Op.fieldAddr 118 (Operand.tmp 39) 2, type := 0, pos := "files.go:55", after := #[{ on := 4, ground := Ground.data }, { on := 2, ground := Ground.guard }], guard := some (2, true) } : Oper)) (v := undef) rfl (by kernel_rfl) (by kernel_rfl) (by kernel_rfl) (fun _ _ _ h => h) (Or.inr ⟨by rfl, rfl⟩) (by assumption) ?_
 try simp only [Act.put, List.setIfInBounds_toArray, List.set_cons_zero, List.set_cons_succ]
 refine wpAnyH_take (i := 6) (oi := ({ dst := some 41, op := Op.load 96 (Operand.tmp 40), type := 96, pos := "files.go:55", after := #[{ on := 5, ground := Ground.data }, { on := 2, ground := Ground.guard }], guard := some (2, true) } : Oper)) (v := undef) rfl (by kernel_rfl) (by kernel_rfl) (by kernel_rfl) (fun _ _ _ h => h) (Or.inr ⟨by rfl, rfl⟩) (by assumption) ?_
 try simp only [Act.put, List.setIfInBounds_toArray, List.set_cons_zero, List.set_cons_succ]
 refine wpAnyH_take (i := 7) (oi := ({ dst := some 42, op := Op.move (Operand.tmp 9), type := 107, pos := "files.go:55", after := #[{ on := 2, ground := Ground.guard }], guard := some (2, true) } : Oper)) (v := undef) rfl (by kernel_rfl) (by kernel_rfl) (by kernel_rfl) (fun _ _ _ h => h) (Or.inr ⟨by rfl, rfl⟩) (by assumption) ?_
 try simp only [Act.put, List.setIfInBounds_toArray, List.set_cons_zero, List.set_cons_succ]
 refine wpAnyH_take (i := 8) (oi := ({ dst := some 43, op := Op.nilCheck (Operand.tmp 42), type := 0, pos := "files.go:55", after := #[{ on := 7, ground := Ground.data }, { on := 2, ground := Ground.guard }], guard := some (2, true) } : Oper)) (v := undef) rfl (by kernel_rfl) (by kernel_rfl) (by kernel_rfl) (fun _ _ _ h => h) (Or.inr ⟨by rfl, rfl⟩) (by assumption) ?_
 try simp only [Act.put, List.setIfInBounds_toArray, List.set_cons_zero, List.set_cons_succ]
 refine wpAnyH_take (i := 9) (oi := ({ dst := some 44, op := Op.fieldAddr 115 (Operand.tmp 43) 1, type := 0, pos := "files.go:55", after := #[{ on := 8, ground := Ground.data }, { on := 2, ground := Ground.guard }], guard := some (2, true) } : Oper)) (v := undef) rfl (by kernel_rfl) (by kernel_rfl) (by kernel_rfl) (fun _ _ _ h => h) (Or.inr ⟨by rfl, rfl⟩) (by assumption) ?_
 try simp only [Act.put, List.setIfInBounds_toArray, List.set_cons_zero, List.set_cons_succ]
 refine wpAnyH_take (i := 10) (oi := ({ dst := some 45, op := Op.load 108 (Operand.tmp 44), type := 108, pos := "files.go:55", after := #[{ on := 9, ground := Ground.data }, { on := 2, ground := Ground.guard }], guard := some (2, true) } : Oper)) (v := undef) rfl (by kernel_rfl) (by kernel_rfl) (by kernel_rfl) (fun _ _ _ h => h) (Or.inr ⟨by rfl, rfl⟩) (by assumption) ?_
 try simp only [Act.put, List.setIfInBounds_toArray, List.set_cons_zero, List.set_cons_succ]
 refine wpAnyH_take (i := 11) (oi := ({ dst := some 46, op := Op.move (Operand.tmp 3), type := 3, pos := "files.go:55", after := #[{ on := 2, ground := Ground.guard }], guard := some (2, true) } : Oper)) (v := undef) rfl (by kernel_rfl) (by kernel_rfl) (by kernel_rfl) (fun _ _ _ h => h) (Or.inr ⟨by rfl, rfl⟩) (by assumption) ?_
 try simp only [Act.put, List.setIfInBounds_toArray, List.set_cons_zero, List.set_cons_succ]
 refine wpAnyH_take (i := 12) (oi := ({ dst := some 47, op := Op.call { callee := Callee.value (Operand.func 156), args := #[Operand.tmp 41, Operand.tmp 45, Operand.tmp 46], argTypes := #[96, 108, 3] }, type := 4, pos := "files.go:55", after := #[{ on := 6, ground := Ground.data }, { on := 10, ground := Ground.data }, { on := 11, ground := Ground.data }, { on := 2, ground := Ground.chain }, { on := 2, ground := Ground.guard }], guard := some (2, true) } : Oper)) (v := undef) rfl (by kernel_rfl) (by kernel_rfl) (by kernel_rfl) (fun _ _ _ h => h) (Or.inr ⟨by rfl, rfl⟩) (by assumption) ?_
 try simp only [Act.put, List.setIfInBounds_toArray, List.set_cons_zero, List.set_cons_succ]
 refine wpAnyH_take (i := 13) (oi := ({ dst := some 48, op := Op.unOp UnOp.not 4 (Operand.tmp 47), type := 4, pos := "files.go:55", after := #[{ on := 12, ground := Ground.data }, { on := 2, ground := Ground.guard }], guard := some (2, true) } : Oper)) (v := undef) rfl (by kernel_rfl) (by kernel_rfl) (by kernel_rfl) (fun _ _ _ h => h) (Or.inr ⟨by rfl, rfl⟩) (by assumption) ?_
 try simp only [Act.put, List.setIfInBounds_toArray, List.set_cons_zero, List.set_cons_succ]
 refine wpAnyH_take (i := 14) (oi := ({ dst := some 49, op := Op.pick (Operand.tmp 37) (Operand.tmp 48) (Operand.const (Value.bool false)), type := 4, pos := "files.go:55", after := #[{ on := 2, ground := Ground.data }, { on := 13, ground := Ground.data }], guard := none } : Oper)) (v := ?v14r) rfl (by kernel_rfl) (by kernel_rfl) (by kernel_rfl) (fun _ _ _ h => h) (Or.inl ⟨by rfl, ?y14r⟩) (by assumption) ?r14r
 case y14r => ((intro w hSw; (try dsimp only at hSw); go_simp) <;> with_reducible rfl)
 try simp only [Act.put, List.setIfInBounds_toArray, List.set_cons_zero, List.set_cons_succ]
 refine wpAnyH_take (i := 15) (oi := ({ dst := some 50, op := Op.move (Operand.tmp 49), type := 4, pos := "files.go:55", after := #[{ on := 14, ground := Ground.data }, { on := 12, ground := Ground.chain }], guard := none } : Oper)) (v := ?v15r) rfl (by kernel_rfl) (by kernel_rfl) (by kernel_rfl) (fun _ _ _ h => h) (Or.inl ⟨by rfl, ?y15r⟩) (by assumption) ?r15r
 case y15r => ((intro w hSw; (try dsimp only at hSw); go_simp) <;> with_reducible rfl)
 try simp only [Act.put, List.setIfInBounds_toArray, List.set_cons_zero, List.set_cons_succ]
 refine wpAnyH_take (i := 16) (oi := ({ dst := some 51, op := Op.move (Operand.tmp 0), type := 25, pos := "files.go:55", after := #[{ on := 15, ground := Ground.guard }], guard := some (15, true) } : Oper)) (v := undef) rfl (by kernel_rfl) (by kernel_rfl) (by kernel_rfl) (fun _ _ _ h => h) (Or.inr ⟨by rfl, rfl⟩) (by assumption) ?_
 try simp only [Act.put, List.setIfInBounds_toArray, List.set_cons_zero, List.set_cons_succ]
 refine wpAnyH_take (i := 17) (oi := ({ dst := some 52, op := Op.nilCheck (Operand.tmp 51), type := 0, pos := "files.go:55", after := #[{ on := 16, ground := Ground.data }, { on := 15, ground := Ground.guard }], guard := some (15, true) } : Oper)) (v := undef) rfl (by kernel_rfl) (by kernel_rfl) (by kernel_rfl) (fun _ _ _ h => h) (Or.inr ⟨by rfl, rfl⟩) (by assumption) ?_
 try simp only [Act.put, List.setIfInBounds_toArray, List.set_cons_zero, List.set_cons_succ]
 refine wpAnyH_take (i := 18) (oi := ({ dst := some 53, op := Op.fieldAddr 118 (Operand.tmp 52) 2, type := 0, pos := "files.go:55", after := #[{ on := 17, ground := Ground.data }, { on := 15, ground := Ground.guard }], guard := some (15, true) } : Oper)) (v := undef) rfl (by kernel_rfl) (by kernel_rfl) (by kernel_rfl) (fun _ _ _ h => h) (Or.inr ⟨by rfl, rfl⟩) (by assumption) ?_
 try simp only [Act.put, List.setIfInBounds_toArray, List.set_cons_zero, List.set_cons_succ]
 refine wpAnyH_take (i := 19) (oi := ({ dst := some 54, op := Op.load 96 (Operand.tmp 53), type := 96, pos := "files.go:55", after := #[{ on := 18, ground := Ground.data }, { on := 15, ground := Ground.guard }], guard := some (15, true) } : Oper)) (v := undef) rfl (by kernel_rfl) (by kernel_rfl) (by kernel_rfl) (fun _ _ _ h => h) (Or.inr ⟨by rfl, rfl⟩) (by assumption) ?_
 try simp only [Act.put, List.setIfInBounds_toArray, List.set_cons_zero, List.set_cons_succ]
 refine wpAnyH_take (i := 20) (oi := ({ dst := some 55, op := Op.move (Operand.tmp 9), type := 107, pos := "files.go:55", after := #[{ on := 15, ground := Ground.guard }], guard := some (15, true) } : Oper)) (v := undef) rfl (by kernel_rfl) (by kernel_rfl) (by kernel_rfl) (fun _ _ _ h => h) (Or.inr ⟨by rfl, rfl⟩) (by assumption) ?_
 try simp only [Act.put, List.setIfInBounds_toArray, List.set_cons_zero, List.set_cons_succ]
 refine wpAnyH_take (i := 21) (oi := ({ dst := some 56, op := Op.nilCheck (Operand.tmp 55), type := 0, pos := "files.go:55", after := #[{ on := 20, ground := Ground.data }, { on := 15, ground := Ground.guard }], guard := some (15, true) } : Oper)) (v := undef) rfl (by kernel_rfl) (by kernel_rfl) (by kernel_rfl) (fun _ _ _ h => h) (Or.inr ⟨by rfl, rfl⟩) (by assumption) ?_
 try simp only [Act.put, List.setIfInBounds_toArray, List.set_cons_zero, List.set_cons_succ]
 refine wpAnyH_take (i := 22) (oi := ({ dst := some 57, op := Op.fieldAddr 115 (Operand.tmp 56) 1, type := 0, pos := "files.go:55", after := #[{ on := 21, ground := Ground.data }, { on := 15, ground := Ground.guard }], guard := some (15, true) } : Oper)) (v := undef) rfl (by kernel_rfl) (by kernel_rfl) (by kernel_rfl) (fun _ _ _ h => h) (Or.inr ⟨by rfl, rfl⟩) (by assumption) ?_
 try simp only [Act.put, List.setIfInBounds_toArray, List.set_cons_zero, List.set_cons_succ]
 refine wpAnyH_take (i := 23) (oi := ({ dst := some 58, op := Op.load 108 (Operand.tmp 57), type := 108, pos := "files.go:55", after := #[{ on := 22, ground := Ground.data }, { on := 15, ground := Ground.guard }], guard := some (15, true) } : Oper)) (v := undef) rfl (by kernel_rfl) (by kernel_rfl) (by kernel_rfl) (fun _ _ _ h => h) (Or.inr ⟨by rfl, rfl⟩) (by assumption) ?_
 try simp only [Act.put, List.setIfInBounds_toArray, List.set_cons_zero, List.set_cons_succ]
 refine wpAnyH_take (i := 24) (oi := ({ dst := some 59, op := Op.move (Operand.tmp 2), type := 3, pos := "files.go:55", after := #[{ on := 15, ground := Ground.guard }], guard := some (15, true) } : Oper)) (v := undef) rfl (by kernel_rfl) (by kernel_rfl) (by kernel_rfl) (fun _ _ _ h => h) (Or.inr ⟨by rfl, rfl⟩) (by assumption) ?_
 try simp only [Act.put, List.setIfInBounds_toArray, List.set_cons_zero, List.set_cons_succ]
 refine wpAnyH_take (i := 25) (oi := ({ dst := some 60, op := Op.call { callee := Callee.value (Operand.func 156), args := #[Operand.tmp 54, Operand.tmp 58, Operand.tmp 59], argTypes := #[96, 108, 3] }, type := 4, pos := "files.go:55", after := #[{ on := 19, ground := Ground.data }, { on := 23, ground := Ground.data }, { on := 24, ground := Ground.data }, { on := 15, ground := Ground.chain }, { on := 15, ground := Ground.guard }], guard := some (15, true) } : Oper)) (v := undef) rfl (by kernel_rfl) (by kernel_rfl) (by kernel_rfl) (fun _ _ _ h => h) (Or.inr ⟨by rfl, rfl⟩) (by assumption) ?_
 try simp only [Act.put, List.setIfInBounds_toArray, List.set_cons_zero, List.set_cons_succ]
 refine wpAnyH_take (i := 26) (oi := ({ dst := some 61, op := Op.pick (Operand.tmp 50) (Operand.tmp 60) (Operand.const (Value.bool false)), type := 4, pos := "files.go:55", after := #[{ on := 15, ground := Ground.data }, { on := 25, ground := Ground.data }], guard := none } : Oper)) (v := ?v26r) rfl (by kernel_rfl) (by kernel_rfl) (by kernel_rfl) (fun _ _ _ h => h) (Or.inl ⟨by rfl, ?y26r⟩) (by assumption) ?r26r
 case y26r => ((intro w hSw; (try dsimp only at hSw); go_simp) <;> with_reducible rfl)
 try simp only [Act.put, List.setIfInBounds_toArray, List.set_cons_zero, List.set_cons_succ]
 refine wpAnyH_take (i := 27) (oi := ({ dst := some 62, op := Op.move (Operand.tmp 61), type := 4, pos := "files.go:55", after := #[{ on := 26, ground := Ground.data }, { on := 25, ground := Ground.chain }], guard := none } : Oper)) (v := ?v27r) rfl (by kernel_rfl) (by kernel_rfl) (by kernel_rfl) (fun _ _ _ h => h) (Or.inl ⟨by rfl, ?y27r⟩) (by assumption) ?r27r
 case y27r => ((intro w hSw; (try dsimp only at hSw); go_simp) <;> with_reducible rfl)
 try simp only [Act.put, List.setIfInBounds_toArray, List.set_cons_zero, List.set_cons_succ]
 refine wpAnyH_take (i := 28) (oi := ({ dst := some 63, op := Op.move (Operand.tmp 3), type := 3, pos := "files.go:55", after := #[{ on := 27, ground := Ground.guard }], guard := some (27, true) } : Oper)) (v := undef) rfl (by kernel_rfl) (by kernel_rfl) (by kernel_rfl) (fun _ _ _ h => h) (Or.inr ⟨by rfl, rfl⟩) (by assumption) ?_
 try simp only [Act.put, List.setIfInBounds_toArray, List.set_cons_zero, List.set_cons_succ]
 refine wpAnyH_take (i := 29) (oi := ({ dst := some 64, op := Op.binOp BinOp.geq 3 (Operand.tmp 63) (Operand.const (Value.int IntKind.i64 0)) 3, type := 4, pos := "files.go:55", after := #[{ on := 28, ground := Ground.data }, { on := 27, ground := Ground.guard }], guard := some (27, true) } : Oper)) (v := undef) rfl (by kernel_rfl) (by kernel_rfl) (by kernel_rfl) (fun _ _ _ h => h) (Or.inr ⟨by rfl, rfl⟩) (by assumption) ?_
 try simp only [Act.put, List.setIfInBounds_toArray, List.set_cons_zero, List.set_cons_succ]
 refine wpAnyH_take (i := 30) (oi := ({ dst := some 65, op := Op.pick (Operand.tmp 62) (Operand.tmp 64) (Operand.const (Value.bool false)), type := 4, pos := "files.go:55", after := #[{ on := 27, ground := Ground.data }, { on := 29, ground := Ground.data }], guard := none } : Oper)) (v := ?v30r) rfl (by kernel_rfl) (by kernel_rfl) (by kernel_rfl) (fun _ _ _ h => h) (Or.inl ⟨by rfl, ?y30r⟩) (by assumption) ?r30r
 case y30r => ((intro w hSw; (try dsimp only at hSw); go_simp) <;> with_reducible rfl)
 try simp only [Act.put, List.setIfInBounds_toArray, List.set_cons_zero, List.set_cons_succ]
 refine wpAnyH_take (i := 31) (oi := ({ dst := some 66, op := Op.move (Operand.tmp 65), type := 4, pos := "files.go:55", after := #[{ on := 30, ground := Ground.data }, { on := 27, ground := Ground.chain }], guard := none } : Oper)) (v := ?v31r) rfl (by kernel_rfl) (by kernel_rfl) (by kernel_rfl) (fun _ _ _ h => h) (Or.inl ⟨by rfl, ?y31r⟩) (by assumption) ?r31r
 case y31r => ((intro w hSw; (try dsimp only at hSw); go_simp) <;> with_reducible rfl)
 try simp only [Act.put, List.setIfInBounds_toArray, List.set_cons_zero, List.set_cons_succ]
 refine wpAnyH_take (i := 32) (oi := ({ dst := some 67, op := Op.move (Operand.tmp 3), type := 3, pos := "files.go:55", after := #[{ on := 31, ground := Ground.guard }], guard := some (31, true) } : Oper)) (v := undef) rfl (by kernel_rfl) (by kernel_rfl) (by kernel_rfl) (fun _ _ _ h => h) (Or.inr ⟨by rfl, rfl⟩) (by assumption) ?_
 try simp only [Act.put, List.setIfInBounds_toArray, List.set_cons_zero, List.set_cons_succ]
 refine wpAnyH_take (i := 33) (oi := ({ dst := some 68, op := Op.binOp BinOp.lss 3 (Operand.tmp 67) (Operand.const (Value.int IntKind.i64 8)) 3, type := 4, pos := "files.go:55", after := #[{ on := 32, ground := Ground.data }, { on := 31, ground := Ground.guard }], guard := some (31, true) } : Oper)) (v := undef) rfl (by kernel_rfl) (by kernel_rfl) (by kernel_rfl) (fun _ _ _ h => h) (Or.inr ⟨by rfl, rfl⟩) (by assumption) ?_
 try simp only [Act.put, List.setIfInBounds_toArray, List.set_cons_zero, List.set_cons_succ]
 refine wpAnyH_take (i := 34) (oi := ({ dst := some 69, op := Op.pick (Operand.tmp 66) (Operand.tmp 68) (Operand.const (Value.bool false)), type := 4, pos := "files.go:55", after := #[{ on := 31, ground := Ground.data }, { on := 33, ground := Ground.data }], guard := none } : Oper)) (v := ?v34r) rfl (by kernel_rfl) (by kernel_rfl) (by kernel_rfl) (fun _ _ _ h => h) (Or.inl ⟨by rfl, ?y34r⟩) (by assumption) ?r34r
 case y34r => ((intro w hSw; (try dsimp only at hSw); go_simp) <;> with_reducible rfl)
 try simp only [Act.put, List.setIfInBounds_toArray, List.set_cons_zero, List.set_cons_succ]
 refine wpAnyH_done (by kernel_rfl) ?_ _
 go_wp2_with fail
 refine HCg2.out.mono ?_
 rintro e w6 (⟨_, rfl, hl6, hf6, t6⟩ | ⟨hne, _⟩)
 rotate_left
 ·exact absurd HWy2.out hne
 have hK6 := (HK5.out.still HTd.out).ledger HM5.out.ko hl6 t6
 rw [done_back] at hK6
 have e6 : ({ ({ k with os := k.os.set i { o with u := done o.u ((1 : Int), (1 : Int)), m := o.m } } : KS) with os := (k.os.set i { o with u := done o.u ((1 : Int), (1 : Int)), m := o.m }).set i { ({ o with u := done o.u ((1 : Int), (1 : Int)), m := o.m } : KO) with u := o.u, m := o.m } } : KS) = k := by
  simp only [List.set_set]
  rw [show k.os.set i { o with u := o.u, m := o.m } = k.os from list_set_same HM.out.ko]
 have hK6 : KIs W w6 a k := by rw [e6] at hK6; exact hK6
 obtain ⟨C6, hK6⟩ := hK6
 have HK6 := hid hK6
 clear hl6 hf6 t6 hK6 e6 c25
 go_wp2_with fail
 have hd6 := HK6.out.drewS
 have hO6 := (hd6.at_ HM.out).1
 have q1 := hO6.c1
 have q2 := hd6.c2
 have HP := hid (law_dup2 hd6.desc HOk.out.dok HOk.out.joint (by have := HOk.out.len; omega) HM.out.tab n to_)
 have HD := hid hd6
 clear hd6 hO6
 obtain ⟨z, hz⟩ : ∃ z, dup2E k.S y.2 n to_ = z := ⟨_, rfl⟩
 rw [hz] at HP
 have HZ := hid hz
 clear hz
 go_region_held3 (fun w' => w'.cell? ⟨o.ob, 1, none⟩ = some (.pointer (some ⟨y.1, 0, none⟩)) ∧ w'.cell? ⟨a.kb, 2, none⟩ = some (.pointer (some ⟨a.fb, 0, none⟩)))
  (first | exact ⟨q1, q2⟩ | exact ⟨r1, r2⟩ | go_keep)
  (first | (go_at_call 157; refine HP.out.mono ?_; rintro e w7 ⟨rfl, hd7⟩; have hK7 := HD.out.fileStep HM.out hd7; obtain ⟨C7, hI7⟩ := hK7; have HI7 := hid hI7; have r2 := hI7.c2; have hA7 := (hI7.at_ (mine_file HM.out)); have r1 := hA7.1.c1; have r3 := hA7.1.c2; have HL7 := hid hA7.2; simp only at r1 r3; clear hd7 hI7 hA7))
 all_goals
  by_cases h0 : z = 0
  ·subst h0
   rw [show TErr 0 = .nilIface from rfl]
   have hul := usedL_dup2 (fun j hj => (HOk.out.joint.pos i _ HM.out.tab j hj).1) HZ.out
   have hdn : (dup2KE o k.S y.2 n to_) = 0 := by
    unfold dup2KE
    rw [if_neg (by rintro ⟨p1, _⟩; have := HLm.out; omega)]
    exact HZ.out
   obtain ⟨U, hU⟩ : ∃ U, usedL (dup2L k.S y.2 n to_) = U := ⟨_, rfl⟩
   have hU8 : U ≤ 8 := by rw [← hU]; exact usedL_le _
   have hUs := used_is ((HI7.out.drewS.desc.tabs i _ (set_at HM.out.tab)).1)
   simp only at hUs
   rw [hU] at hUs hul
   have HUs2 := hid hUs
   have hV := (HOk.out.live i o x y HM.out.ko HM.out.sp HM.out.tab ⟨pid, HM.out.own⟩).2.1
   have hwy : why o.u o.m ((1 : Int), (U : Int) - usedL y.2) = 0 := by
    have h1 := why_more (HOk.out.fit i o HM.out.ko).1 1 (by omega) ((U : Int) - usedL y.2) (by rw [hul.1]; split <;> omega) (by omega)
    have h1 : why o.u o.m ((1 : Int), (U : Int) - usedL y.2) = _ := h1
    rw [h1, if_neg (by
     rintro ⟨p1, p2⟩
     have h5 := hul.1; have := HLm.out; split at h5 <;> omega)]
   have HWy := hid hwy
   have HU := hid hU
   have HV := hid hV
   have HDn := hid hdn
   have tw : Turn (fun _ => False) w7 w7.drew := (Turn.refl _ _).drew
   have s1 := (tw.cell (lt_of_cell r1) id).trans r1
   have s3 := (tw.cell (lt_of_cell r3) id).trans r3
   have HLd7 := hid (HL7.out.turned tw id)
   have HId7 := hid (HI7.out.still tw)
   have hu8 : usedL y.2 ≤ 8 := usedL_le _
   have hwrap : IntKind.i64.wrap ((U : Int) - usedL y.2) = (U : Int) - usedL y.2 := IntWalk.i64_in _ (by omega)
   clear hul hdn hU hUs hV hwy tw
   go_wp2_with fail
   go_region_held3 (fun w' => w'.cell? ⟨o.ob, 1, none⟩ = some (.pointer (some ⟨y.1, 0, none⟩)) ∧ w'.cell? ⟨o.ob, 2, none⟩ = some (.pointer (some ⟨o.lb, 0, none⟩)))
    (first | exact ⟨s1, s3⟩ | exact ⟨s18, s38⟩ | exact ⟨s19, s39⟩ | go_keep)
    (first
     | (go_at_call 78; refine HUs2.out.mono ?_; rintro e w8 ⟨rfl, t8⟩; have s18 := (t8.cell (lt_of_cell s1) id).trans s1; have s38 := (t8.cell (lt_of_cell s3) id).trans s3; have HI8 := hid (HId7.out.still t8); have HCg8 := hid (charge_one (kind := 1) (n := (U : Int) - usedL y.2) (HLd7.out.turned t8 id) (HOk.out.fit i o HM.out.ko).1); unfold Charged1 at HCg8; clear t8)
     | (go_at_call 60; refine HCg8.out.mono ?_; rintro e w9 (⟨_, rfl, hl9, hf9, t9⟩ | ⟨hne, _⟩); rotate_left; exact absurd HWy.out hne; have HR9 := hid (HI8.out.fileLed HM.out hl9 t9); have HF9 := hid hf9; have hI8 := HI8.out; have s19 := (t9.cell (lt_of_cell s18) (fun e => kmark (hI8.cob i _ (set_at HM.out.ko)) (hI8.clb i _ (set_at HM.out.ko)) (by simp) e)).trans s18; have s39 := (t9.cell (lt_of_cell s38) (fun e => kmark (hI8.cob i _ (set_at HM.out.ko)) (hI8.clb i _ (set_at HM.out.ko)) (by simp) e)).trans s38; clear hl9 hf9 t9 hI8))
   all_goals go_wp2_with fail
   all_goals go_returns
   all_goals
    have eu : done o.u ((1 : Int), (U : Int) - usedL y.2) = upd o.u 1 (U : Int) := by
     unfold done
     simp only [Int.toNat_one]
     rw [HV.out, show (usedL y.2 : Int) + ((U : Int) - usedL y.2) = U by omega]
    have hr9 := HR9.out
    have hf9 := HF9.out
    rw [eu] at hr9 hf9
    have hjj := joint_dup2 HOk.out.joint HOk.out.dok (by have := HOk.out.len; omega) HM.out.tab HTok.out n to_
    rw [← HU.out] at hr9 hf9
    refine ⟨by rw [HDn.out]; rfl, _, hr9, HOk.out.file HM.out hjj.1 hjj.2 ⟨upd_other _ _ (by decide), upd_same _ _ _, upd_other _ _ (by decide)⟩ hf9, fun _ => rfl, fun e => absurd HDn.out e⟩
  ·have he := dup2_err (L := y.2) (by rw [HZ.out]; exact h0)
   have HE := hid he
   have H0 := hid h0
   have hdn : (dup2KE o k.S y.2 n to_) = z := by
    unfold dup2KE
    rw [if_neg (by rintro ⟨p1, _⟩; have := HLm.out; omega)]
    exact HZ.out
   have HDn := hid hdn
   rw [TErr_of h0]
   clear he hdn
   go_wp2_with fail
   go_returns
   rw [show dup2KE o k.S y.2 n to_ = z from HDn.out, TErr_of H0.out]
   exact ⟨rfl, fileK_err HM.out ⟨_, HI7.out⟩ HOk.out HE.out.1 HE.out.2 H0.out⟩
theorem kHas_is (h : KIn W w a k C) (hok : KOk k) (hm : Mine k pid i o x y) (q : Int) :
  Calls Tryz.prog 156 #[.pointer (some ⟨a.fb, 0, none⟩), .pointer (some ⟨y.1, 0, none⟩), .int .i64 q] w fun e w' => e = .returned (.bool (slotL y.2 q).isSome) ∧ Turn (fun _ => False) w w' := by
 obtain ⟨F, ⟨om, B, P, Ft, D, h1, rfl⟩, h2, h3⟩ := h.desc.files
 exact has_is h1 (h.desc.tabs i _ hm.tab).1 (hok.there hm) q
set_option maxHeartbeats 8000000 in
set_option maxRecDepth 100000 in
theorem kdup2_full (h : KIn W w a k C) (hok : KOk k) (hm : Mine k pid i o x y) (hLd : Laid W) (n to_ : Int) (hlim : o.m 1 < o.u 1 + 1) :
  Calls Tryz.prog 73 #[.pointer (some ⟨a.kb, 0, none⟩), .int .i64 pid, .int .i64 n, .int .i64 to_] w (fun e w' => Dup2To W a k i o y n to_ e w') := by
 have HW := hid (who_yes h hok hm.own hm.ko)
 obtain ⟨hO, hL⟩ := h.at_ hm
 have HUs := hid (used_is (h.desc.tabs i y hm.tab).1)
 have c1 := hO.c1
 have c2 := hO.c2
 have HLg := hid hL
 have H := hid h
 have HOk := hid hok
 have HM := hid hm
 have HLd := hid hLd
 have HTok := hid h.tok
 have HLm := hid hlim
 have hwy : why o.u o.m ((1 : Int), (1 : Int)) = if 0 < (1 : Int) ∧ o.m 1 < o.u 1 + 1 then 4 else 0 := why_more (hok.fit i o hm.ko).1 1 (by omega) 1 (by omega) (by omega)
 have HWy1 := hid hwy
 clear h hok hm hLd hlim hO hL hwy
 unfold Dup2To
 go_enter Tryz.func73, Tryz.ntmps73
 go_wp2_with fail
 refine HW.out.mono ?_
 rintro e w1 ⟨rfl, hw⟩; subst w1
 go_wp2_with fail
 refine HUs.out.mono ?_
 rintro e w2 ⟨rfl, t2⟩
 have c2' := (t2.cell (lt_of_cell c2) id).trans c2
 have hcg := charge_one (kind := 1) (n := 1) (HLg.out.turned t2 id) (HOk.out.fit i o HM.out.ko).1
 unfold Charged1 at hcg
 have HCg := hid hcg
 have HK2 := hid (H.out.still t2)
 clear hcg t2 c1 c2 HLg
 go_wp2_with fail
 refine HCg.out.mono ?_
 rintro e w5 (⟨h0, _⟩ | ⟨hne, b, rfl, hb, t5, hbf⟩)
 ·rw [HWy1.out, if_pos ⟨(by omega), by have := HLm.out; omega⟩] at h0; cases h0
 rw [HWy1.out, if_pos ⟨(by omega), by have := HLm.out; omega⟩] at hb
 have hK5 := HK2.out.still t5
 have HK5 := hid hK5
 have hO5 := (hK5.drewS.at_ HM.out).1
 have m1 := hO5.c1
 have m2 := hK5.drewS.c2
 have HB := hid hb
 have HHas := hid (fun w' (tt : Turn (fun _ => False) w5 w') q => kHas_is (HK5.out.still tt) HOk.out HM.out q)
 clear hne hb t5 hbf hK5 hO5 c2'
 obtain ⟨b1, hb1⟩ : ∃ b1, (slotL y.2 to_).isSome = b1 := ⟨_, rfl⟩
 obtain ⟨b2, hb2⟩ : ∃ b2, (slotL y.2 n).isSome = b2 := ⟨_, rfl⟩
 have HHa := hid (show Calls Tryz.prog 156 #[.pointer (some ⟨a.fb, 0, none⟩), .pointer (some ⟨y.1, 0, none⟩), .int .i64 to_] w5.drew fun e w'' => e = .returned (.bool b1) ∧ Turn (fun _ => False) w5.drew w'' from by have h9 := HHas.out w5.drew ((Turn.refl _ _).drew) to_; rw [hb1] at h9; exact h9)
 have HHn := hid (fun w' (tt : Turn (fun _ => False) w5 w') => show Calls Tryz.prog 156 #[.pointer (some ⟨a.fb, 0, none⟩), .pointer (some ⟨y.1, 0, none⟩), .int .i64 n] w' fun e w'' => e = .returned (.bool b2) ∧ Turn (fun _ => False) w' w'' from by have h9 := HHas.out w' tt n; rw [hb2] at h9; exact h9)
 have HB1 := hid hb1
 have HB2 := hid hb2
 clear HHas hb1 hb2
 go_upto_region 6 with fail
 refine wp_region_held_drew (S := fun w' => Turn (fun _ => False) w5 w' ∧ w'.cell? ⟨o.ob, 1, none⟩ = some (.pointer (some ⟨y.1, 0, none⟩)) ∧ w'.cell? ⟨a.kb, 2, none⟩ = some (.pointer (some ⟨a.fb, 0, none⟩))) (by kernel_rfl) (⟨(Turn.refl _ _).drew, m1, m2⟩) (fun hHeld => ?_)
 refine wpAnyH_take (i := 0) (oi := ({ dst := some 35, op := Op.move (Operand.tmp 12), type := 27, pos := "files.go:55", after := #[], guard := none } : Oper)) (v := ?v0a) rfl (by kernel_rfl) (by kernel_rfl) (by kernel_rfl) (fun _ _ _ h => h) (Or.inl ⟨by rfl, ?y0a⟩) (by assumption) ?r0a
 case y0a => ((intro w hSw; (try dsimp only at hSw); go_simp) <;> with_reducible rfl)
 try simp only [Act.put, List.setIfInBounds_toArray, List.set_cons_zero, List.set_cons_succ]
 refine wpAnyH_take (i := 1) (oi := ({ dst := some 36, op := Op.binOp BinOp.neq 27 (Operand.tmp 35) (Operand.const Value.nilIface) 27, type := 4, pos := "files.go:55", after := #[{ on := 0, ground := Ground.data }], guard := none } : Oper)) (v := ?v1a) rfl (by kernel_rfl) (by kernel_rfl) (by kernel_rfl) (fun _ _ _ h => h) (Or.inl ⟨by rfl, ?y1a⟩) (by assumption) ?r1a
 case y1a => ((intro w hSw; (try dsimp only at hSw); go_simp) <;> with_reducible rfl)
 try simp only [Act.put, List.setIfInBounds_toArray, List.set_cons_zero, List.set_cons_succ]
 refine wpAnyH_take (i := 2) (oi := ({ dst := some 37, op := Op.move (Operand.tmp 36), type := 4, pos := "files.go:55", after := #[{ on := 1, ground := Ground.data }], guard := none } : Oper)) (v := ?v2a) rfl (by kernel_rfl) (by kernel_rfl) (by kernel_rfl) (fun _ _ _ h => h) (Or.inl ⟨by rfl, ?y2a⟩) (by assumption) ?r2a
 case y2a => ((intro w hSw; (try dsimp only at hSw); go_simp) <;> with_reducible rfl)
 try simp only [Act.put, List.setIfInBounds_toArray, List.set_cons_zero, List.set_cons_succ]
 refine wpAnyH_take (i := 3) (oi := ({ dst := some 38, op := Op.move (Operand.tmp 0), type := 25, pos := "files.go:55", after := #[{ on := 2, ground := Ground.guard }], guard := some (2, true) } : Oper)) (v := ?v3a) rfl (by kernel_rfl) (by kernel_rfl) (by kernel_rfl) (fun _ _ _ h => h) (Or.inl ⟨by rfl, ?y3a⟩) (by assumption) ?r3a
 case y3a => ((intro w hSw; (try dsimp only at hSw); go_simp) <;> with_reducible rfl)
 try simp only [Act.put, List.setIfInBounds_toArray, List.set_cons_zero, List.set_cons_succ]
 refine wpAnyH_take (i := 4) (oi := ({ dst := some 39, op := Op.nilCheck (Operand.tmp 38), type := 0, pos := "files.go:55", after := #[{ on := 3, ground := Ground.data }, { on := 2, ground := Ground.guard }], guard := some (2, true) } : Oper)) (v := ?v4a) rfl (by kernel_rfl) (by kernel_rfl) (by kernel_rfl) (fun _ _ _ h => h) (Or.inl ⟨by rfl, ?y4a⟩) (by assumption) ?r4a
 case y4a => ((intro w hSw; (try dsimp only at hSw); go_simp) <;> with_reducible rfl)
 try simp only [Act.put, List.setIfInBounds_toArray, List.set_cons_zero, List.set_cons_succ]
 refine wpAnyH_take (i := 5) (oi := ({ dst := some 40, op := Op.fieldAddr 118 (Operand.tmp 39) 2, type := 0, pos := "files.go:55", after := #[{ on := 4, ground := Ground.data }, { on := 2, ground := Ground.guard }], guard := some (2, true) } : Oper)) (v := ?v5a) rfl (by kernel_rfl) (by kernel_rfl) (by kernel_rfl) (fun _ _ _ h => h) (Or.inl ⟨by rfl, ?y5a⟩) (by assumption) ?r5a
 case y5a => ((intro w hSw; (try dsimp only at hSw); go_simp) <;> with_reducible rfl)
 try simp only [Act.put, List.setIfInBounds_toArray, List.set_cons_zero, List.set_cons_succ]
 refine wpAnyH_take (i := 6) (oi := ({ dst := some 41, op := Op.load 96 (Operand.tmp 40), type := 96, pos := "files.go:55", after := #[{ on := 5, ground := Ground.data }, { on := 2, ground := Ground.guard }], guard := some (2, true) } : Oper)) (v := ?v6a) rfl (by kernel_rfl) (by kernel_rfl) (by kernel_rfl) (fun _ _ _ h => h) (Or.inl ⟨by rfl, ?y6a⟩) (by assumption) ?r6a
 case y6a => ((intro w hSw; (try dsimp only at hSw); go_simp) <;> with_reducible rfl)
 try simp only [Act.put, List.setIfInBounds_toArray, List.set_cons_zero, List.set_cons_succ]
 refine wpAnyH_take (i := 7) (oi := ({ dst := some 42, op := Op.move (Operand.tmp 9), type := 107, pos := "files.go:55", after := #[{ on := 2, ground := Ground.guard }], guard := some (2, true) } : Oper)) (v := ?v7a) rfl (by kernel_rfl) (by kernel_rfl) (by kernel_rfl) (fun _ _ _ h => h) (Or.inl ⟨by rfl, ?y7a⟩) (by assumption) ?r7a
 case y7a => ((intro w hSw; (try dsimp only at hSw); go_simp) <;> with_reducible rfl)
 try simp only [Act.put, List.setIfInBounds_toArray, List.set_cons_zero, List.set_cons_succ]
 refine wpAnyH_take (i := 8) (oi := ({ dst := some 43, op := Op.nilCheck (Operand.tmp 42), type := 0, pos := "files.go:55", after := #[{ on := 7, ground := Ground.data }, { on := 2, ground := Ground.guard }], guard := some (2, true) } : Oper)) (v := ?v8a) rfl (by kernel_rfl) (by kernel_rfl) (by kernel_rfl) (fun _ _ _ h => h) (Or.inl ⟨by rfl, ?y8a⟩) (by assumption) ?r8a
 case y8a => ((intro w hSw; (try dsimp only at hSw); go_simp) <;> with_reducible rfl)
 try simp only [Act.put, List.setIfInBounds_toArray, List.set_cons_zero, List.set_cons_succ]
 refine wpAnyH_take (i := 9) (oi := ({ dst := some 44, op := Op.fieldAddr 115 (Operand.tmp 43) 1, type := 0, pos := "files.go:55", after := #[{ on := 8, ground := Ground.data }, { on := 2, ground := Ground.guard }], guard := some (2, true) } : Oper)) (v := ?v9a) rfl (by kernel_rfl) (by kernel_rfl) (by kernel_rfl) (fun _ _ _ h => h) (Or.inl ⟨by rfl, ?y9a⟩) (by assumption) ?r9a
 case y9a => ((intro w hSw; (try dsimp only at hSw); go_simp) <;> with_reducible rfl)
 try simp only [Act.put, List.setIfInBounds_toArray, List.set_cons_zero, List.set_cons_succ]
 refine wpAnyH_take (i := 10) (oi := ({ dst := some 45, op := Op.load 108 (Operand.tmp 44), type := 108, pos := "files.go:55", after := #[{ on := 9, ground := Ground.data }, { on := 2, ground := Ground.guard }], guard := some (2, true) } : Oper)) (v := ?v10a) rfl (by kernel_rfl) (by kernel_rfl) (by kernel_rfl) (fun _ _ _ h => h) (Or.inl ⟨by rfl, ?y10a⟩) (by assumption) ?r10a
 case y10a => ((intro w hSw; (try dsimp only at hSw); go_simp) <;> with_reducible rfl)
 try simp only [Act.put, List.setIfInBounds_toArray, List.set_cons_zero, List.set_cons_succ]
 refine wpAnyH_take (i := 11) (oi := ({ dst := some 46, op := Op.move (Operand.tmp 3), type := 3, pos := "files.go:55", after := #[{ on := 2, ground := Ground.guard }], guard := some (2, true) } : Oper)) (v := ?v11a) rfl (by kernel_rfl) (by kernel_rfl) (by kernel_rfl) (fun _ _ _ h => h) (Or.inl ⟨by rfl, ?y11a⟩) (by assumption) ?r11a
 case y11a => ((intro w hSw; (try dsimp only at hSw); go_simp) <;> with_reducible rfl)
 try simp only [Act.put, List.setIfInBounds_toArray, List.set_cons_zero, List.set_cons_succ]
 refine wpAnyH_ready (rs := [12]) (by kernel_rfl) (by simp) ?_
 refine AllReadyH.cons (o := ({ dst := some 47, op := Op.call { callee := Callee.value (Operand.func 156), args := #[Operand.tmp 41, Operand.tmp 45, Operand.tmp 46], argTypes := #[96, 108, 3] }, type := 4, pos := "files.go:55", after := #[{ on := 6, ground := Ground.data }, { on := 10, ground := Ground.data }, { on := 11, ground := Ground.data }, { on := 2, ground := Ground.chain }, { on := 2, ground := Ground.guard }], guard := some (2, true) } : Oper)) rfl (fun K hK => ?_) AllReadyH.nil
 go_simp
 (go_at_call 156; refine HHa.out.mono ?_; rintro e w6 ⟨rfl, t6⟩; have HT6 := hid ((Turn.refl (fun _ => False) w5).drew.trans t6); have m16 := (t6.cell (lt_of_cell m1) id).trans m1; have m26 := (t6.cell (lt_of_cell m2) id).trans m2; clear t6)
 go_wp2_with fail
 refine hK.out _ _ ?_ (fun hHeld => ?_)
 ·exact ⟨HT6.out, m16, m26⟩
 clear hK K
 try simp only [Act.put, List.setIfInBounds_toArray, List.set_cons_zero, List.set_cons_succ]
 refine wpAnyH_take (i := 13) (oi := ({ dst := some 48, op := Op.unOp UnOp.not 4 (Operand.tmp 47), type := 4, pos := "files.go:55", after := #[{ on := 12, ground := Ground.data }, { on := 2, ground := Ground.guard }], guard := some (2, true) } : Oper)) (v := ?v13a) rfl (by kernel_rfl) (by kernel_rfl) (by kernel_rfl) (fun _ _ _ h => h) (Or.inl ⟨by rfl, ?y13a⟩) (by assumption) ?r13a
 case y13a => ((intro w hSw; (try dsimp only at hSw); go_simp) <;> with_reducible rfl)
 try simp only [Act.put, List.setIfInBounds_toArray, List.set_cons_zero, List.set_cons_succ]
 refine wpAnyH_take (i := 14) (oi := ({ dst := some 49, op := Op.pick (Operand.tmp 37) (Operand.tmp 48) (Operand.const (Value.bool false)), type := 4, pos := "files.go:55", after := #[{ on := 2, ground := Ground.data }, { on := 13, ground := Ground.data }], guard := none } : Oper)) (v := ?v14a) rfl (by kernel_rfl) (by kernel_rfl) (by kernel_rfl) (fun _ _ _ h => h) (Or.inl ⟨by rfl, ?y14a⟩) (by assumption) ?r14a
 case y14a => ((intro w hSw; (try dsimp only at hSw); go_simp) <;> with_reducible rfl)
 try simp only [Act.put, List.setIfInBounds_toArray, List.set_cons_zero, List.set_cons_succ]
 cases b1 with
 | true =>
  have HNC := hid (show ¬ (o.m 1 < o.u 1 + 1 ∧ slotL y.2 to_ = none ∧ slotL y.2 n ≠ none ∧ 0 ≤ to_ ∧ to_ < 8) from fun hc => by have h9 := HB1.out; rw [hc.2.1] at h9; cases h9)
  refine wpAnyH_take (i := 15) (oi := ({ dst := some 50, op := Op.move (Operand.tmp 49), type := 4, pos := "files.go:55", after := #[{ on := 14, ground := Ground.data }, { on := 12, ground := Ground.chain }], guard := none } : Oper)) (v := ?v15b) rfl (by kernel_rfl) (by kernel_rfl) (by kernel_rfl) (fun _ _ _ h => h) (Or.inl ⟨by rfl, ?y15b⟩) (by assumption) ?r15b
  case y15b => ((intro w hSw; (try dsimp only at hSw); go_simp) <;> with_reducible rfl)
  try simp only [Act.put, List.setIfInBounds_toArray, List.set_cons_zero, List.set_cons_succ]
  refine wpAnyH_take (i := 16) (oi := ({ dst := some 51, op := Op.move (Operand.tmp 0), type := 25, pos := "files.go:55", after := #[{ on := 15, ground := Ground.guard }], guard := some (15, true) } : Oper)) (v := undef) rfl (by kernel_rfl) (by kernel_rfl) (by kernel_rfl) (fun _ _ _ h => h) (Or.inr ⟨by rfl, rfl⟩) (by assumption) ?_
  try simp only [Act.put, List.setIfInBounds_toArray, List.set_cons_zero, List.set_cons_succ]
  refine wpAnyH_take (i := 17) (oi := ({ dst := some 52, op := Op.nilCheck (Operand.tmp 51), type := 0, pos := "files.go:55", after := #[{ on := 16, ground := Ground.data }, { on := 15, ground := Ground.guard }], guard := some (15, true) } : Oper)) (v := undef) rfl (by kernel_rfl) (by kernel_rfl) (by kernel_rfl) (fun _ _ _ h => h) (Or.inr ⟨by rfl, rfl⟩) (by assumption) ?_
  try simp only [Act.put, List.setIfInBounds_toArray, List.set_cons_zero, List.set_cons_succ]
  refine wpAnyH_take (i := 18) (oi := ({ dst := some 53, op := Op.fieldAddr 118 (Operand.tmp 52) 2, type := 0, pos := "files.go:55", after := #[{ on := 17, ground := Ground.data }, { on := 15, ground := Ground.guard }], guard := some (15, true) } : Oper)) (v := undef) rfl (by kernel_rfl) (by kernel_rfl) (by kernel_rfl) (fun _ _ _ h => h) (Or.inr ⟨by rfl, rfl⟩) (by assumption) ?_
  try simp only [Act.put, List.setIfInBounds_toArray, List.set_cons_zero, List.set_cons_succ]
  refine wpAnyH_take (i := 19) (oi := ({ dst := some 54, op := Op.load 96 (Operand.tmp 53), type := 96, pos := "files.go:55", after := #[{ on := 18, ground := Ground.data }, { on := 15, ground := Ground.guard }], guard := some (15, true) } : Oper)) (v := undef) rfl (by kernel_rfl) (by kernel_rfl) (by kernel_rfl) (fun _ _ _ h => h) (Or.inr ⟨by rfl, rfl⟩) (by assumption) ?_
  try simp only [Act.put, List.setIfInBounds_toArray, List.set_cons_zero, List.set_cons_succ]
  refine wpAnyH_take (i := 20) (oi := ({ dst := some 55, op := Op.move (Operand.tmp 9), type := 107, pos := "files.go:55", after := #[{ on := 15, ground := Ground.guard }], guard := some (15, true) } : Oper)) (v := undef) rfl (by kernel_rfl) (by kernel_rfl) (by kernel_rfl) (fun _ _ _ h => h) (Or.inr ⟨by rfl, rfl⟩) (by assumption) ?_
  try simp only [Act.put, List.setIfInBounds_toArray, List.set_cons_zero, List.set_cons_succ]
  refine wpAnyH_take (i := 21) (oi := ({ dst := some 56, op := Op.nilCheck (Operand.tmp 55), type := 0, pos := "files.go:55", after := #[{ on := 20, ground := Ground.data }, { on := 15, ground := Ground.guard }], guard := some (15, true) } : Oper)) (v := undef) rfl (by kernel_rfl) (by kernel_rfl) (by kernel_rfl) (fun _ _ _ h => h) (Or.inr ⟨by rfl, rfl⟩) (by assumption) ?_
  try simp only [Act.put, List.setIfInBounds_toArray, List.set_cons_zero, List.set_cons_succ]
  refine wpAnyH_take (i := 22) (oi := ({ dst := some 57, op := Op.fieldAddr 115 (Operand.tmp 56) 1, type := 0, pos := "files.go:55", after := #[{ on := 21, ground := Ground.data }, { on := 15, ground := Ground.guard }], guard := some (15, true) } : Oper)) (v := undef) rfl (by kernel_rfl) (by kernel_rfl) (by kernel_rfl) (fun _ _ _ h => h) (Or.inr ⟨by rfl, rfl⟩) (by assumption) ?_
  try simp only [Act.put, List.setIfInBounds_toArray, List.set_cons_zero, List.set_cons_succ]
  refine wpAnyH_take (i := 23) (oi := ({ dst := some 58, op := Op.load 108 (Operand.tmp 57), type := 108, pos := "files.go:55", after := #[{ on := 22, ground := Ground.data }, { on := 15, ground := Ground.guard }], guard := some (15, true) } : Oper)) (v := undef) rfl (by kernel_rfl) (by kernel_rfl) (by kernel_rfl) (fun _ _ _ h => h) (Or.inr ⟨by rfl, rfl⟩) (by assumption) ?_
  try simp only [Act.put, List.setIfInBounds_toArray, List.set_cons_zero, List.set_cons_succ]
  refine wpAnyH_take (i := 24) (oi := ({ dst := some 59, op := Op.move (Operand.tmp 2), type := 3, pos := "files.go:55", after := #[{ on := 15, ground := Ground.guard }], guard := some (15, true) } : Oper)) (v := undef) rfl (by kernel_rfl) (by kernel_rfl) (by kernel_rfl) (fun _ _ _ h => h) (Or.inr ⟨by rfl, rfl⟩) (by assumption) ?_
  try simp only [Act.put, List.setIfInBounds_toArray, List.set_cons_zero, List.set_cons_succ]
  refine wpAnyH_take (i := 25) (oi := ({ dst := some 60, op := Op.call { callee := Callee.value (Operand.func 156), args := #[Operand.tmp 54, Operand.tmp 58, Operand.tmp 59], argTypes := #[96, 108, 3] }, type := 4, pos := "files.go:55", after := #[{ on := 19, ground := Ground.data }, { on := 23, ground := Ground.data }, { on := 24, ground := Ground.data }, { on := 15, ground := Ground.chain }, { on := 15, ground := Ground.guard }], guard := some (15, true) } : Oper)) (v := undef) rfl (by kernel_rfl) (by kernel_rfl) (by kernel_rfl) (fun _ _ _ h => h) (Or.inr ⟨by rfl, rfl⟩) (by assumption) ?_
  try simp only [Act.put, List.setIfInBounds_toArray, List.set_cons_zero, List.set_cons_succ]
  refine wpAnyH_take (i := 26) (oi := ({ dst := some 61, op := Op.pick (Operand.tmp 50) (Operand.tmp 60) (Operand.const (Value.bool false)), type := 4, pos := "files.go:55", after := #[{ on := 15, ground := Ground.data }, { on := 25, ground := Ground.data }], guard := none } : Oper)) (v := ?v26b) rfl (by kernel_rfl) (by kernel_rfl) (by kernel_rfl) (fun _ _ _ h => h) (Or.inl ⟨by rfl, ?y26b⟩) (by assumption) ?r26b
  case y26b => ((intro w hSw; (try dsimp only at hSw); go_simp) <;> with_reducible rfl)
  try simp only [Act.put, List.setIfInBounds_toArray, List.set_cons_zero, List.set_cons_succ]
  refine wpAnyH_take (i := 27) (oi := ({ dst := some 62, op := Op.move (Operand.tmp 61), type := 4, pos := "files.go:55", after := #[{ on := 26, ground := Ground.data }, { on := 25, ground := Ground.chain }], guard := none } : Oper)) (v := ?v27b) rfl (by kernel_rfl) (by kernel_rfl) (by kernel_rfl) (fun _ _ _ h => h) (Or.inl ⟨by rfl, ?y27b⟩) (by assumption) ?r27b
  case y27b => ((intro w hSw; (try dsimp only at hSw); go_simp) <;> with_reducible rfl)
  try simp only [Act.put, List.setIfInBounds_toArray, List.set_cons_zero, List.set_cons_succ]
  refine wpAnyH_take (i := 28) (oi := ({ dst := some 63, op := Op.move (Operand.tmp 3), type := 3, pos := "files.go:55", after := #[{ on := 27, ground := Ground.guard }], guard := some (27, true) } : Oper)) (v := undef) rfl (by kernel_rfl) (by kernel_rfl) (by kernel_rfl) (fun _ _ _ h => h) (Or.inr ⟨by rfl, rfl⟩) (by assumption) ?_
  try simp only [Act.put, List.setIfInBounds_toArray, List.set_cons_zero, List.set_cons_succ]
  refine wpAnyH_take (i := 29) (oi := ({ dst := some 64, op := Op.binOp BinOp.geq 3 (Operand.tmp 63) (Operand.const (Value.int IntKind.i64 0)) 3, type := 4, pos := "files.go:55", after := #[{ on := 28, ground := Ground.data }, { on := 27, ground := Ground.guard }], guard := some (27, true) } : Oper)) (v := undef) rfl (by kernel_rfl) (by kernel_rfl) (by kernel_rfl) (fun _ _ _ h => h) (Or.inr ⟨by rfl, rfl⟩) (by assumption) ?_
  try simp only [Act.put, List.setIfInBounds_toArray, List.set_cons_zero, List.set_cons_succ]
  refine wpAnyH_take (i := 30) (oi := ({ dst := some 65, op := Op.pick (Operand.tmp 62) (Operand.tmp 64) (Operand.const (Value.bool false)), type := 4, pos := "files.go:55", after := #[{ on := 27, ground := Ground.data }, { on := 29, ground := Ground.data }], guard := none } : Oper)) (v := ?v30b) rfl (by kernel_rfl) (by kernel_rfl) (by kernel_rfl) (fun _ _ _ h => h) (Or.inl ⟨by rfl, ?y30b⟩) (by assumption) ?r30b
  case y30b => ((intro w hSw; (try dsimp only at hSw); go_simp) <;> with_reducible rfl)
  try simp only [Act.put, List.setIfInBounds_toArray, List.set_cons_zero, List.set_cons_succ]
  refine wpAnyH_take (i := 31) (oi := ({ dst := some 66, op := Op.move (Operand.tmp 65), type := 4, pos := "files.go:55", after := #[{ on := 30, ground := Ground.data }, { on := 27, ground := Ground.chain }], guard := none } : Oper)) (v := ?v31b) rfl (by kernel_rfl) (by kernel_rfl) (by kernel_rfl) (fun _ _ _ h => h) (Or.inl ⟨by rfl, ?y31b⟩) (by assumption) ?r31b
  case y31b => ((intro w hSw; (try dsimp only at hSw); go_simp) <;> with_reducible rfl)
  try simp only [Act.put, List.setIfInBounds_toArray, List.set_cons_zero, List.set_cons_succ]
  refine wpAnyH_take (i := 32) (oi := ({ dst := some 67, op := Op.move (Operand.tmp 3), type := 3, pos := "files.go:55", after := #[{ on := 31, ground := Ground.guard }], guard := some (31, true) } : Oper)) (v := undef) rfl (by kernel_rfl) (by kernel_rfl) (by kernel_rfl) (fun _ _ _ h => h) (Or.inr ⟨by rfl, rfl⟩) (by assumption) ?_
  try simp only [Act.put, List.setIfInBounds_toArray, List.set_cons_zero, List.set_cons_succ]
  refine wpAnyH_take (i := 33) (oi := ({ dst := some 68, op := Op.binOp BinOp.lss 3 (Operand.tmp 67) (Operand.const (Value.int IntKind.i64 8)) 3, type := 4, pos := "files.go:55", after := #[{ on := 32, ground := Ground.data }, { on := 31, ground := Ground.guard }], guard := some (31, true) } : Oper)) (v := undef) rfl (by kernel_rfl) (by kernel_rfl) (by kernel_rfl) (fun _ _ _ h => h) (Or.inr ⟨by rfl, rfl⟩) (by assumption) ?_
  try simp only [Act.put, List.setIfInBounds_toArray, List.set_cons_zero, List.set_cons_succ]
  refine wpAnyH_take (i := 34) (oi := ({ dst := some 69, op := Op.pick (Operand.tmp 66) (Operand.tmp 68) (Operand.const (Value.bool false)), type := 4, pos := "files.go:55", after := #[{ on := 31, ground := Ground.data }, { on := 33, ground := Ground.data }], guard := none } : Oper)) (v := ?v34b) rfl (by kernel_rfl) (by kernel_rfl) (by kernel_rfl) (fun _ _ _ h => h) (Or.inl ⟨by rfl, ?y34b⟩) (by assumption) ?r34b
  case y34b => ((intro w hSw; (try dsimp only at hSw); go_simp) <;> with_reducible rfl)
  try simp only [Act.put, List.setIfInBounds_toArray, List.set_cons_zero, List.set_cons_succ]
  refine wpAnyH_done (by kernel_rfl) ?_ _
  have HK6 := hid (HK5.out.still HT6.out)
  clear HB
  go_wp2_with fail
  have hd6 := HK6.out.drewS
  have hO6 := (hd6.at_ HM.out).1
  have q1 := hO6.c1
  have q2 := hd6.c2
  have HP := hid (law_dup2 hd6.desc HOk.out.dok HOk.out.joint (by have := HOk.out.len; omega) HM.out.tab n to_)
  have HD := hid hd6
  clear hd6 hO6
  obtain ⟨z, hz⟩ : ∃ z, dup2E k.S y.2 n to_ = z := ⟨_, rfl⟩
  rw [hz] at HP
  have HZ := hid hz
  clear hz
  go_region_held3 (fun w' => w'.cell? ⟨o.ob, 1, none⟩ = some (.pointer (some ⟨y.1, 0, none⟩)) ∧ w'.cell? ⟨a.kb, 2, none⟩ = some (.pointer (some ⟨a.fb, 0, none⟩)))
   (first | exact ⟨q1, q2⟩ | exact ⟨r1, r2⟩ | go_keep)
   (first | (go_at_call 157; refine HP.out.mono ?_; rintro e w7 ⟨rfl, hd7⟩; have hK7 := HD.out.fileStep HM.out hd7; obtain ⟨C7, hI7⟩ := hK7; have HI7 := hid hI7; have r2 := hI7.c2; have hA7 := (hI7.at_ (mine_file HM.out)); have r1 := hA7.1.c1; have r3 := hA7.1.c2; have HL7 := hid hA7.2; simp only at r1 r3; clear hd7 hI7 hA7))
  all_goals
   by_cases h0 : z = 0
   ·subst h0
    rw [show TErr 0 = .nilIface from rfl]
    have hul := usedL_dup2 (fun j hj => (HOk.out.joint.pos i _ HM.out.tab j hj).1) HZ.out
    have hdn : (dup2KE o k.S y.2 n to_) = 0 := by
     unfold dup2KE
     rw [if_neg (by exact HNC.out)]
     exact HZ.out
    obtain ⟨U, hU⟩ : ∃ U, usedL (dup2L k.S y.2 n to_) = U := ⟨_, rfl⟩
    have hU8 : U ≤ 8 := by rw [← hU]; exact usedL_le _
    have hUs := used_is ((HI7.out.drewS.desc.tabs i _ (set_at HM.out.tab)).1)
    simp only at hUs
    rw [hU] at hUs hul
    have HUs2 := hid hUs
    have hV := (HOk.out.live i o x y HM.out.ko HM.out.sp HM.out.tab ⟨pid, HM.out.own⟩).2.1
    have hwy : why o.u o.m ((1 : Int), (U : Int) - usedL y.2) = 0 := by
     have h1 := why_more (HOk.out.fit i o HM.out.ko).1 1 (by omega) ((U : Int) - usedL y.2) (by rw [hul.1]; split <;> omega) (by omega)
     have h1 : why o.u o.m ((1 : Int), (U : Int) - usedL y.2) = _ := h1
     rw [h1, if_neg (by
      rintro ⟨p1, p2⟩
      by_cases h6 : slotL y.2 to_ = none
      ·exact HNC.out ⟨by have := HLm.out; omega, h6, (by intro e; have := hul.2.1; rw [e] at this; cases this), hul.2.2.1, hul.2.2.2⟩
      ·have h5 := hul.1; rw [if_neg h6] at h5; omega)]
    have HWy := hid hwy
    have HU := hid hU
    have HV := hid hV
    have HDn := hid hdn
    have tw : Turn (fun _ => False) w7 w7.drew := (Turn.refl _ _).drew
    have s1 := (tw.cell (lt_of_cell r1) id).trans r1
    have s3 := (tw.cell (lt_of_cell r3) id).trans r3
    have HLd7 := hid (HL7.out.turned tw id)
    have HId7 := hid (HI7.out.still tw)
    have hu8 : usedL y.2 ≤ 8 := usedL_le _
    have hwrap : IntKind.i64.wrap ((U : Int) - usedL y.2) = (U : Int) - usedL y.2 := IntWalk.i64_in _ (by omega)
    clear hul hdn hU hUs hV hwy tw
    go_wp2_with fail
    go_region_held3 (fun w' => w'.cell? ⟨o.ob, 1, none⟩ = some (.pointer (some ⟨y.1, 0, none⟩)) ∧ w'.cell? ⟨o.ob, 2, none⟩ = some (.pointer (some ⟨o.lb, 0, none⟩)))
     (first | exact ⟨s1, s3⟩ | exact ⟨s18, s38⟩ | exact ⟨s19, s39⟩ | go_keep)
     (first
      | (go_at_call 78; refine HUs2.out.mono ?_; rintro e w8 ⟨rfl, t8⟩; have s18 := (t8.cell (lt_of_cell s1) id).trans s1; have s38 := (t8.cell (lt_of_cell s3) id).trans s3; have HI8 := hid (HId7.out.still t8); have HCg8 := hid (charge_one (kind := 1) (n := (U : Int) - usedL y.2) (HLd7.out.turned t8 id) (HOk.out.fit i o HM.out.ko).1); unfold Charged1 at HCg8; clear t8)
      | (go_at_call 60; refine HCg8.out.mono ?_; rintro e w9 (⟨_, rfl, hl9, hf9, t9⟩ | ⟨hne, _⟩); rotate_left; exact absurd HWy.out hne; have HR9 := hid (HI8.out.fileLed HM.out hl9 t9); have HF9 := hid hf9; have hI8 := HI8.out; have s19 := (t9.cell (lt_of_cell s18) (fun e => kmark (hI8.cob i _ (set_at HM.out.ko)) (hI8.clb i _ (set_at HM.out.ko)) (by simp) e)).trans s18; have s39 := (t9.cell (lt_of_cell s38) (fun e => kmark (hI8.cob i _ (set_at HM.out.ko)) (hI8.clb i _ (set_at HM.out.ko)) (by simp) e)).trans s38; clear hl9 hf9 t9 hI8))
    all_goals go_wp2_with fail
    all_goals go_returns
    all_goals
     have eu : done o.u ((1 : Int), (U : Int) - usedL y.2) = upd o.u 1 (U : Int) := by
      unfold done
      simp only [Int.toNat_one]
      rw [HV.out, show (usedL y.2 : Int) + ((U : Int) - usedL y.2) = U by omega]
     have hr9 := HR9.out
     have hf9 := HF9.out
     rw [eu] at hr9 hf9
     have hjj := joint_dup2 HOk.out.joint HOk.out.dok (by have := HOk.out.len; omega) HM.out.tab HTok.out n to_
     rw [← HU.out] at hr9 hf9
     refine ⟨by rw [HDn.out]; rfl, _, hr9, HOk.out.file HM.out hjj.1 hjj.2 ⟨upd_other _ _ (by decide), upd_same _ _ _, upd_other _ _ (by decide)⟩ hf9, fun _ => rfl, fun e => absurd HDn.out e⟩
   ·have he := dup2_err (L := y.2) (by rw [HZ.out]; exact h0)
    have HE := hid he
    have H0 := hid h0
    have hdn : (dup2KE o k.S y.2 n to_) = z := by
     unfold dup2KE
     rw [if_neg (by exact HNC.out)]
     exact HZ.out
    have HDn := hid hdn
    rw [TErr_of h0]
    clear he hdn
    go_wp2_with fail
    go_returns
    rw [show dup2KE o k.S y.2 n to_ = z from HDn.out, TErr_of H0.out]
    exact ⟨rfl, fileK_err HM.out ⟨_, HI7.out⟩ HOk.out HE.out.1 HE.out.2 H0.out⟩
 | false =>
  refine wpAnyH_take (i := 15) (oi := ({ dst := some 50, op := Op.move (Operand.tmp 49), type := 4, pos := "files.go:55", after := #[{ on := 14, ground := Ground.data }, { on := 12, ground := Ground.chain }], guard := none } : Oper)) (v := ?v15c) rfl (by kernel_rfl) (by kernel_rfl) (by kernel_rfl) (fun _ _ _ h => h) (Or.inl ⟨by rfl, ?y15c⟩) (by assumption) ?r15c
  case y15c => ((intro w hSw; (try dsimp only at hSw); go_simp) <;> with_reducible rfl)
  try simp only [Act.put, List.setIfInBounds_toArray, List.set_cons_zero, List.set_cons_succ]
  refine wpAnyH_take (i := 16) (oi := ({ dst := some 51, op := Op.move (Operand.tmp 0), type := 25, pos := "files.go:55", after := #[{ on := 15, ground := Ground.guard }], guard := some (15, true) } : Oper)) (v := ?v16c) rfl (by kernel_rfl) (by kernel_rfl) (by kernel_rfl) (fun _ _ _ h => h) (Or.inl ⟨by rfl, ?y16c⟩) (by assumption) ?r16c
  case y16c => ((intro w hSw; (try dsimp only at hSw); go_simp) <;> with_reducible rfl)
  try simp only [Act.put, List.setIfInBounds_toArray, List.set_cons_zero, List.set_cons_succ]
  refine wpAnyH_take (i := 17) (oi := ({ dst := some 52, op := Op.nilCheck (Operand.tmp 51), type := 0, pos := "files.go:55", after := #[{ on := 16, ground := Ground.data }, { on := 15, ground := Ground.guard }], guard := some (15, true) } : Oper)) (v := ?v17c) rfl (by kernel_rfl) (by kernel_rfl) (by kernel_rfl) (fun _ _ _ h => h) (Or.inl ⟨by rfl, ?y17c⟩) (by assumption) ?r17c
  case y17c => ((intro w hSw; (try dsimp only at hSw); go_simp) <;> with_reducible rfl)
  try simp only [Act.put, List.setIfInBounds_toArray, List.set_cons_zero, List.set_cons_succ]
  refine wpAnyH_take (i := 18) (oi := ({ dst := some 53, op := Op.fieldAddr 118 (Operand.tmp 52) 2, type := 0, pos := "files.go:55", after := #[{ on := 17, ground := Ground.data }, { on := 15, ground := Ground.guard }], guard := some (15, true) } : Oper)) (v := ?v18c) rfl (by kernel_rfl) (by kernel_rfl) (by kernel_rfl) (fun _ _ _ h => h) (Or.inl ⟨by rfl, ?y18c⟩) (by assumption) ?r18c
  case y18c => ((intro w hSw; (try dsimp only at hSw); go_simp) <;> with_reducible rfl)
  try simp only [Act.put, List.setIfInBounds_toArray, List.set_cons_zero, List.set_cons_succ]
  refine wpAnyH_take (i := 19) (oi := ({ dst := some 54, op := Op.load 96 (Operand.tmp 53), type := 96, pos := "files.go:55", after := #[{ on := 18, ground := Ground.data }, { on := 15, ground := Ground.guard }], guard := some (15, true) } : Oper)) (v := ?v19c) rfl (by kernel_rfl) (by kernel_rfl) (by kernel_rfl) (fun _ _ _ h => h) (Or.inl ⟨by rfl, ?y19c⟩) (by assumption) ?r19c
  case y19c => ((intro w hSw; (try dsimp only at hSw); go_simp) <;> with_reducible rfl)
  try simp only [Act.put, List.setIfInBounds_toArray, List.set_cons_zero, List.set_cons_succ]
  refine wpAnyH_take (i := 20) (oi := ({ dst := some 55, op := Op.move (Operand.tmp 9), type := 107, pos := "files.go:55", after := #[{ on := 15, ground := Ground.guard }], guard := some (15, true) } : Oper)) (v := ?v20c) rfl (by kernel_rfl) (by kernel_rfl) (by kernel_rfl) (fun _ _ _ h => h) (Or.inl ⟨by rfl, ?y20c⟩) (by assumption) ?r20c
  case y20c => ((intro w hSw; (try dsimp only at hSw); go_simp) <;> with_reducible rfl)
  try simp only [Act.put, List.setIfInBounds_toArray, List.set_cons_zero, List.set_cons_succ]
  refine wpAnyH_take (i := 21) (oi := ({ dst := some 56, op := Op.nilCheck (Operand.tmp 55), type := 0, pos := "files.go:55", after := #[{ on := 20, ground := Ground.data }, { on := 15, ground := Ground.guard }], guard := some (15, true) } : Oper)) (v := ?v21c) rfl (by kernel_rfl) (by kernel_rfl) (by kernel_rfl) (fun _ _ _ h => h) (Or.inl ⟨by rfl, ?y21c⟩) (by assumption) ?r21c
  case y21c => ((intro w hSw; (try dsimp only at hSw); go_simp) <;> with_reducible rfl)
  try simp only [Act.put, List.setIfInBounds_toArray, List.set_cons_zero, List.set_cons_succ]
  refine wpAnyH_take (i := 22) (oi := ({ dst := some 57, op := Op.fieldAddr 115 (Operand.tmp 56) 1, type := 0, pos := "files.go:55", after := #[{ on := 21, ground := Ground.data }, { on := 15, ground := Ground.guard }], guard := some (15, true) } : Oper)) (v := ?v22c) rfl (by kernel_rfl) (by kernel_rfl) (by kernel_rfl) (fun _ _ _ h => h) (Or.inl ⟨by rfl, ?y22c⟩) (by assumption) ?r22c
  case y22c => ((intro w hSw; (try dsimp only at hSw); go_simp) <;> with_reducible rfl)
  try simp only [Act.put, List.setIfInBounds_toArray, List.set_cons_zero, List.set_cons_succ]
  refine wpAnyH_take (i := 23) (oi := ({ dst := some 58, op := Op.load 108 (Operand.tmp 57), type := 108, pos := "files.go:55", after := #[{ on := 22, ground := Ground.data }, { on := 15, ground := Ground.guard }], guard := some (15, true) } : Oper)) (v := ?v23c) rfl (by kernel_rfl) (by kernel_rfl) (by kernel_rfl) (fun _ _ _ h => h) (Or.inl ⟨by rfl, ?y23c⟩) (by assumption) ?r23c
  case y23c => ((intro w hSw; (try dsimp only at hSw); go_simp) <;> with_reducible rfl)
  try simp only [Act.put, List.setIfInBounds_toArray, List.set_cons_zero, List.set_cons_succ]
  refine wpAnyH_take (i := 24) (oi := ({ dst := some 59, op := Op.move (Operand.tmp 2), type := 3, pos := "files.go:55", after := #[{ on := 15, ground := Ground.guard }], guard := some (15, true) } : Oper)) (v := ?v24c) rfl (by kernel_rfl) (by kernel_rfl) (by kernel_rfl) (fun _ _ _ h => h) (Or.inl ⟨by rfl, ?y24c⟩) (by assumption) ?r24c
  case y24c => ((intro w hSw; (try dsimp only at hSw); go_simp) <;> with_reducible rfl)
  try simp only [Act.put, List.setIfInBounds_toArray, List.set_cons_zero, List.set_cons_succ]
  refine wpAnyH_ready (rs := [25]) (by kernel_rfl) (by simp) ?_
  refine AllReadyH.cons (o := ({ dst := some 60, op := Op.call { callee := Callee.value (Operand.func 156), args := #[Operand.tmp 54, Operand.tmp 58, Operand.tmp 59], argTypes := #[96, 108, 3] }, type := 4, pos := "files.go:55", after := #[{ on := 19, ground := Ground.data }, { on := 23, ground := Ground.data }, { on := 24, ground := Ground.data }, { on := 15, ground := Ground.chain }, { on := 15, ground := Ground.guard }], guard := some (15, true) } : Oper)) rfl (fun K hK => ?_) AllReadyH.nil
  go_simp
  (go_at_call 156; refine (HHn.out _ HT6.out).mono ?_; rintro e w7 ⟨rfl, t7⟩; have HT7 := hid (HT6.out.trans t7); have m17 := (t7.cell (lt_of_cell m16) id).trans m16; have m27 := (t7.cell (lt_of_cell m26) id).trans m26; clear t7)
  go_wp2_with fail
  refine hK.out _ _ ?_ (fun hHeld => ?_)
  ·exact ⟨HT7.out, m17, m27⟩
  clear hK K
  try simp only [Act.put, List.setIfInBounds_toArray, List.set_cons_zero, List.set_cons_succ]
  refine wpAnyH_take (i := 26) (oi := ({ dst := some 61, op := Op.pick (Operand.tmp 50) (Operand.tmp 60) (Operand.const (Value.bool false)), type := 4, pos := "files.go:55", after := #[{ on := 15, ground := Ground.data }, { on := 25, ground := Ground.data }], guard := none } : Oper)) (v := ?v26c) rfl (by kernel_rfl) (by kernel_rfl) (by kernel_rfl) (fun _ _ _ h => h) (Or.inl ⟨by rfl, ?y26c⟩) (by assumption) ?r26c
  case y26c => ((intro w hSw; (try dsimp only at hSw); go_simp) <;> with_reducible rfl)
  try simp only [Act.put, List.setIfInBounds_toArray, List.set_cons_zero, List.set_cons_succ]
  cases b2 with
  | false =>
   have HNC := hid (show ¬ (o.m 1 < o.u 1 + 1 ∧ slotL y.2 to_ = none ∧ slotL y.2 n ≠ none ∧ 0 ≤ to_ ∧ to_ < 8) from fun hc => by
    have h8 := HB2.out
    cases h9 : slotL y.2 n with
    | none => exact hc.2.2.1 h9
    | some _ => rw [h9] at h8; cases h8)
   refine wpAnyH_take (i := 27) (oi := ({ dst := some 62, op := Op.move (Operand.tmp 61), type := 4, pos := "files.go:55", after := #[{ on := 26, ground := Ground.data }, { on := 25, ground := Ground.chain }], guard := none } : Oper)) (v := ?v27d) rfl (by kernel_rfl) (by kernel_rfl) (by kernel_rfl) (fun _ _ _ h => h) (Or.inl ⟨by rfl, ?y27d⟩) (by assumption) ?r27d
   case y27d => ((intro w hSw; (try dsimp only at hSw); go_simp) <;> with_reducible rfl)
   try simp only [Act.put, List.setIfInBounds_toArray, List.set_cons_zero, List.set_cons_succ]
   refine wpAnyH_take (i := 28) (oi := ({ dst := some 63, op := Op.move (Operand.tmp 3), type := 3, pos := "files.go:55", after := #[{ on := 27, ground := Ground.guard }], guard := some (27, true) } : Oper)) (v := undef) rfl (by kernel_rfl) (by kernel_rfl) (by kernel_rfl) (fun _ _ _ h => h) (Or.inr ⟨by rfl, rfl⟩) (by assumption) ?_
   try simp only [Act.put, List.setIfInBounds_toArray, List.set_cons_zero, List.set_cons_succ]
   refine wpAnyH_take (i := 29) (oi := ({ dst := some 64, op := Op.binOp BinOp.geq 3 (Operand.tmp 63) (Operand.const (Value.int IntKind.i64 0)) 3, type := 4, pos := "files.go:55", after := #[{ on := 28, ground := Ground.data }, { on := 27, ground := Ground.guard }], guard := some (27, true) } : Oper)) (v := undef) rfl (by kernel_rfl) (by kernel_rfl) (by kernel_rfl) (fun _ _ _ h => h) (Or.inr ⟨by rfl, rfl⟩) (by assumption) ?_
   try simp only [Act.put, List.setIfInBounds_toArray, List.set_cons_zero, List.set_cons_succ]
   refine wpAnyH_take (i := 30) (oi := ({ dst := some 65, op := Op.pick (Operand.tmp 62) (Operand.tmp 64) (Operand.const (Value.bool false)), type := 4, pos := "files.go:55", after := #[{ on := 27, ground := Ground.data }, { on := 29, ground := Ground.data }], guard := none } : Oper)) (v := ?v30d) rfl (by kernel_rfl) (by kernel_rfl) (by kernel_rfl) (fun _ _ _ h => h) (Or.inl ⟨by rfl, ?y30d⟩) (by assumption) ?r30d
   case y30d => ((intro w hSw; (try dsimp only at hSw); go_simp) <;> with_reducible rfl)
   try simp only [Act.put, List.setIfInBounds_toArray, List.set_cons_zero, List.set_cons_succ]
   refine wpAnyH_take (i := 31) (oi := ({ dst := some 66, op := Op.move (Operand.tmp 65), type := 4, pos := "files.go:55", after := #[{ on := 30, ground := Ground.data }, { on := 27, ground := Ground.chain }], guard := none } : Oper)) (v := ?v31d) rfl (by kernel_rfl) (by kernel_rfl) (by kernel_rfl) (fun _ _ _ h => h) (Or.inl ⟨by rfl, ?y31d⟩) (by assumption) ?r31d
   case y31d => ((intro w hSw; (try dsimp only at hSw); go_simp) <;> with_reducible rfl)
   try simp only [Act.put, List.setIfInBounds_toArray, List.set_cons_zero, List.set_cons_succ]
   refine wpAnyH_take (i := 32) (oi := ({ dst := some 67, op := Op.move (Operand.tmp 3), type := 3, pos := "files.go:55", after := #[{ on := 31, ground := Ground.guard }], guard := some (31, true) } : Oper)) (v := undef) rfl (by kernel_rfl) (by kernel_rfl) (by kernel_rfl) (fun _ _ _ h => h) (Or.inr ⟨by rfl, rfl⟩) (by assumption) ?_
   try simp only [Act.put, List.setIfInBounds_toArray, List.set_cons_zero, List.set_cons_succ]
   refine wpAnyH_take (i := 33) (oi := ({ dst := some 68, op := Op.binOp BinOp.lss 3 (Operand.tmp 67) (Operand.const (Value.int IntKind.i64 8)) 3, type := 4, pos := "files.go:55", after := #[{ on := 32, ground := Ground.data }, { on := 31, ground := Ground.guard }], guard := some (31, true) } : Oper)) (v := undef) rfl (by kernel_rfl) (by kernel_rfl) (by kernel_rfl) (fun _ _ _ h => h) (Or.inr ⟨by rfl, rfl⟩) (by assumption) ?_
   try simp only [Act.put, List.setIfInBounds_toArray, List.set_cons_zero, List.set_cons_succ]
   refine wpAnyH_take (i := 34) (oi := ({ dst := some 69, op := Op.pick (Operand.tmp 66) (Operand.tmp 68) (Operand.const (Value.bool false)), type := 4, pos := "files.go:55", after := #[{ on := 31, ground := Ground.data }, { on := 33, ground := Ground.data }], guard := none } : Oper)) (v := ?v34d) rfl (by kernel_rfl) (by kernel_rfl) (by kernel_rfl) (fun _ _ _ h => h) (Or.inl ⟨by rfl, ?y34d⟩) (by assumption) ?r34d
   case y34d => ((intro w hSw; (try dsimp only at hSw); go_simp) <;> with_reducible rfl)
   try simp only [Act.put, List.setIfInBounds_toArray, List.set_cons_zero, List.set_cons_succ]
   refine wpAnyH_done (by kernel_rfl) ?_ _
   have HK6 := hid (HK5.out.still HT7.out)
   clear HB
   go_wp2_with fail
   have hd6 := HK6.out.drewS
   have hO6 := (hd6.at_ HM.out).1
   have q1 := hO6.c1
   have q2 := hd6.c2
   have HP := hid (law_dup2 hd6.desc HOk.out.dok HOk.out.joint (by have := HOk.out.len; omega) HM.out.tab n to_)
   have HD := hid hd6
   clear hd6 hO6
   obtain ⟨z, hz⟩ : ∃ z, dup2E k.S y.2 n to_ = z := ⟨_, rfl⟩
   rw [hz] at HP
   have HZ := hid hz
   clear hz
   go_region_held3 (fun w' => w'.cell? ⟨o.ob, 1, none⟩ = some (.pointer (some ⟨y.1, 0, none⟩)) ∧ w'.cell? ⟨a.kb, 2, none⟩ = some (.pointer (some ⟨a.fb, 0, none⟩)))
    (first | exact ⟨q1, q2⟩ | exact ⟨r1, r2⟩ | go_keep)
    (first | (go_at_call 157; refine HP.out.mono ?_; rintro e w7 ⟨rfl, hd7⟩; have hK7 := HD.out.fileStep HM.out hd7; obtain ⟨C7, hI7⟩ := hK7; have HI7 := hid hI7; have r2 := hI7.c2; have hA7 := (hI7.at_ (mine_file HM.out)); have r1 := hA7.1.c1; have r3 := hA7.1.c2; have HL7 := hid hA7.2; simp only at r1 r3; clear hd7 hI7 hA7))
   all_goals
    by_cases h0 : z = 0
    ·subst h0
     rw [show TErr 0 = .nilIface from rfl]
     have hul := usedL_dup2 (fun j hj => (HOk.out.joint.pos i _ HM.out.tab j hj).1) HZ.out
     have hdn : (dup2KE o k.S y.2 n to_) = 0 := by
      unfold dup2KE
      rw [if_neg (by exact HNC.out)]
      exact HZ.out
     obtain ⟨U, hU⟩ : ∃ U, usedL (dup2L k.S y.2 n to_) = U := ⟨_, rfl⟩
     have hU8 : U ≤ 8 := by rw [← hU]; exact usedL_le _
     have hUs := used_is ((HI7.out.drewS.desc.tabs i _ (set_at HM.out.tab)).1)
     simp only at hUs
     rw [hU] at hUs hul
     have HUs2 := hid hUs
     have hV := (HOk.out.live i o x y HM.out.ko HM.out.sp HM.out.tab ⟨pid, HM.out.own⟩).2.1
     have hwy : why o.u o.m ((1 : Int), (U : Int) - usedL y.2) = 0 := by
      have h1 := why_more (HOk.out.fit i o HM.out.ko).1 1 (by omega) ((U : Int) - usedL y.2) (by rw [hul.1]; split <;> omega) (by omega)
      have h1 : why o.u o.m ((1 : Int), (U : Int) - usedL y.2) = _ := h1
      rw [h1, if_neg (by
       rintro ⟨p1, p2⟩
       by_cases h6 : slotL y.2 to_ = none
       ·exact HNC.out ⟨by have := HLm.out; omega, h6, (by intro e; have := hul.2.1; rw [e] at this; cases this), hul.2.2.1, hul.2.2.2⟩
       ·have h5 := hul.1; rw [if_neg h6] at h5; omega)]
     have HWy := hid hwy
     have HU := hid hU
     have HV := hid hV
     have HDn := hid hdn
     have tw : Turn (fun _ => False) w7 w7.drew := (Turn.refl _ _).drew
     have s1 := (tw.cell (lt_of_cell r1) id).trans r1
     have s3 := (tw.cell (lt_of_cell r3) id).trans r3
     have HLd7 := hid (HL7.out.turned tw id)
     have HId7 := hid (HI7.out.still tw)
     have hu8 : usedL y.2 ≤ 8 := usedL_le _
     have hwrap : IntKind.i64.wrap ((U : Int) - usedL y.2) = (U : Int) - usedL y.2 := IntWalk.i64_in _ (by omega)
     clear hul hdn hU hUs hV hwy tw
     go_wp2_with fail
     go_region_held3 (fun w' => w'.cell? ⟨o.ob, 1, none⟩ = some (.pointer (some ⟨y.1, 0, none⟩)) ∧ w'.cell? ⟨o.ob, 2, none⟩ = some (.pointer (some ⟨o.lb, 0, none⟩)))
      (first | exact ⟨s1, s3⟩ | exact ⟨s18, s38⟩ | exact ⟨s19, s39⟩ | go_keep)
      (first
       | (go_at_call 78; refine HUs2.out.mono ?_; rintro e w8 ⟨rfl, t8⟩; have s18 := (t8.cell (lt_of_cell s1) id).trans s1; have s38 := (t8.cell (lt_of_cell s3) id).trans s3; have HI8 := hid (HId7.out.still t8); have HCg8 := hid (charge_one (kind := 1) (n := (U : Int) - usedL y.2) (HLd7.out.turned t8 id) (HOk.out.fit i o HM.out.ko).1); unfold Charged1 at HCg8; clear t8)
       | (go_at_call 60; refine HCg8.out.mono ?_; rintro e w9 (⟨_, rfl, hl9, hf9, t9⟩ | ⟨hne, _⟩); rotate_left; exact absurd HWy.out hne; have HR9 := hid (HI8.out.fileLed HM.out hl9 t9); have HF9 := hid hf9; have hI8 := HI8.out; have s19 := (t9.cell (lt_of_cell s18) (fun e => kmark (hI8.cob i _ (set_at HM.out.ko)) (hI8.clb i _ (set_at HM.out.ko)) (by simp) e)).trans s18; have s39 := (t9.cell (lt_of_cell s38) (fun e => kmark (hI8.cob i _ (set_at HM.out.ko)) (hI8.clb i _ (set_at HM.out.ko)) (by simp) e)).trans s38; clear hl9 hf9 t9 hI8))
     all_goals go_wp2_with fail
     all_goals go_returns
     all_goals
      have eu : done o.u ((1 : Int), (U : Int) - usedL y.2) = upd o.u 1 (U : Int) := by
       unfold done
       simp only [Int.toNat_one]
       rw [HV.out, show (usedL y.2 : Int) + ((U : Int) - usedL y.2) = U by omega]
      have hr9 := HR9.out
      have hf9 := HF9.out
      rw [eu] at hr9 hf9
      have hjj := joint_dup2 HOk.out.joint HOk.out.dok (by have := HOk.out.len; omega) HM.out.tab HTok.out n to_
      rw [← HU.out] at hr9 hf9
      refine ⟨by rw [HDn.out]; rfl, _, hr9, HOk.out.file HM.out hjj.1 hjj.2 ⟨upd_other _ _ (by decide), upd_same _ _ _, upd_other _ _ (by decide)⟩ hf9, fun _ => rfl, fun e => absurd HDn.out e⟩
    ·have he := dup2_err (L := y.2) (by rw [HZ.out]; exact h0)
     have HE := hid he
     have H0 := hid h0
     have hdn : (dup2KE o k.S y.2 n to_) = z := by
      unfold dup2KE
      rw [if_neg (by exact HNC.out)]
      exact HZ.out
     have HDn := hid hdn
     rw [TErr_of h0]
     clear he hdn
     go_wp2_with fail
     go_returns
     rw [show dup2KE o k.S y.2 n to_ = z from HDn.out, TErr_of H0.out]
     exact ⟨rfl, fileK_err HM.out ⟨_, HI7.out⟩ HOk.out HE.out.1 HE.out.2 H0.out⟩
  | true =>
   have HS1 := hid (show slotL y.2 to_ = none from by
    have h8 := HB1.out
    cases h9 : slotL y.2 to_ with
    | none => rfl
    | some _ => rw [h9] at h8; cases h8)
   have HS12 := hid (show slotL y.2 to_ = none ∧ slotL y.2 n ≠ none from ⟨HS1.out, fun h9 => (by have h8 := HB2.out; rw [h9] at h8; cases h8)⟩)
   by_cases h0 : 0 ≤ to_
   ·have e1 : decide (0 ≤ to_) = true := decide_eq_true h0
    have e1' : decide (to_ ≥ 0) = true := decide_eq_true h0
    refine wpAnyH_take (i := 27) (oi := ({ dst := some 62, op := Op.move (Operand.tmp 61), type := 4, pos := "files.go:55", after := #[{ on := 26, ground := Ground.data }, { on := 25, ground := Ground.chain }], guard := none } : Oper)) (v := ?v27e) rfl (by kernel_rfl) (by kernel_rfl) (by kernel_rfl) (fun _ _ _ h => h) (Or.inl ⟨by rfl, ?y27e⟩) (by assumption) ?r27e
    case y27e => ((intro w hSw; (try dsimp only at hSw); go_simp) <;> with_reducible rfl)
    try simp only [Act.put, List.setIfInBounds_toArray, List.set_cons_zero, List.set_cons_succ]
    refine wpAnyH_take (i := 28) (oi := ({ dst := some 63, op := Op.move (Operand.tmp 3), type := 3, pos := "files.go:55", after := #[{ on := 27, ground := Ground.guard }], guard := some (27, true) } : Oper)) (v := ?v28e) rfl (by kernel_rfl) (by kernel_rfl) (by kernel_rfl) (fun _ _ _ h => h) (Or.inl ⟨by rfl, ?y28e⟩) (by assumption) ?r28e
    case y28e => ((intro w hSw; (try dsimp only at hSw); go_simp) <;> with_reducible rfl)
    try simp only [Act.put, List.setIfInBounds_toArray, List.set_cons_zero, List.set_cons_succ]
    refine wpAnyH_take (i := 29) (oi := ({ dst := some 64, op := Op.binOp BinOp.geq 3 (Operand.tmp 63) (Operand.const (Value.int IntKind.i64 0)) 3, type := 4, pos := "files.go:55", after := #[{ on := 28, ground := Ground.data }, { on := 27, ground := Ground.guard }], guard := some (27, true) } : Oper)) (v := ?v29e) rfl (by kernel_rfl) (by kernel_rfl) (by kernel_rfl) (fun _ _ _ h => h) (Or.inl ⟨by rfl, ?y29e⟩) (by assumption) ?r29e
    case y29e => ((intro w hSw; (try dsimp only at hSw); go_simp) <;> with_reducible rfl)
    try simp only [Act.put, List.setIfInBounds_toArray, List.set_cons_zero, List.set_cons_succ]
    refine wpAnyH_take (i := 30) (oi := ({ dst := some 65, op := Op.pick (Operand.tmp 62) (Operand.tmp 64) (Operand.const (Value.bool false)), type := 4, pos := "files.go:55", after := #[{ on := 27, ground := Ground.data }, { on := 29, ground := Ground.data }], guard := none } : Oper)) (v := ?v30e) rfl (by kernel_rfl) (by kernel_rfl) (by kernel_rfl) (fun _ _ _ h => h) (Or.inl ⟨by rfl, ?y30e⟩) (by assumption) ?r30e
    case y30e => ((intro w hSw; (try dsimp only at hSw); go_simp) <;> with_reducible rfl)
    try simp only [Act.put, List.setIfInBounds_toArray, List.set_cons_zero, List.set_cons_succ]
    by_cases h8 : to_ < 8
    ·have e2 : decide (to_ < 8) = true := decide_eq_true h8
     have HCn := hid (show o.m 1 < o.u 1 + 1 ∧ slotL y.2 to_ = none ∧ slotL y.2 n ≠ none ∧ 0 ≤ to_ ∧ to_ < 8 from ⟨by have := HLm.out; omega, HS12.out.1, HS12.out.2, h0, h8⟩)
     clear h0 h8
     refine wpAnyH_take (i := 31) (oi := ({ dst := some 66, op := Op.move (Operand.tmp 65), type := 4, pos := "files.go:55", after := #[{ on := 30, ground := Ground.data }, { on := 27, ground := Ground.chain }], guard := none } : Oper)) (v := ?v31f) rfl (by kernel_rfl) (by kernel_rfl) (by kernel_rfl) (fun _ _ _ h => h) (Or.inl ⟨by rfl, ?y31f⟩) (by assumption) ?r31f
     case y31f => ((intro w hSw; (try dsimp only at hSw); go_simp) <;> with_reducible rfl)
     try simp only [Act.put, List.setIfInBounds_toArray, List.set_cons_zero, List.set_cons_succ]
     refine wpAnyH_take (i := 32) (oi := ({ dst := some 67, op := Op.move (Operand.tmp 3), type := 3, pos := "files.go:55", after := #[{ on := 31, ground := Ground.guard }], guard := some (31, true) } : Oper)) (v := ?v32f) rfl (by kernel_rfl) (by kernel_rfl) (by kernel_rfl) (fun _ _ _ h => h) (Or.inl ⟨by rfl, ?y32f⟩) (by assumption) ?r32f
     case y32f => ((intro w hSw; (try dsimp only at hSw); go_simp) <;> with_reducible rfl)
     try simp only [Act.put, List.setIfInBounds_toArray, List.set_cons_zero, List.set_cons_succ]
     refine wpAnyH_take (i := 33) (oi := ({ dst := some 68, op := Op.binOp BinOp.lss 3 (Operand.tmp 67) (Operand.const (Value.int IntKind.i64 8)) 3, type := 4, pos := "files.go:55", after := #[{ on := 32, ground := Ground.data }, { on := 31, ground := Ground.guard }], guard := some (31, true) } : Oper)) (v := ?v33f) rfl (by kernel_rfl) (by kernel_rfl) (by kernel_rfl) (fun _ _ _ h => h) (Or.inl ⟨by rfl, ?y33f⟩) (by assumption) ?r33f
     case y33f => ((intro w hSw; (try dsimp only at hSw); go_simp) <;> with_reducible rfl)
     try simp only [Act.put, List.setIfInBounds_toArray, List.set_cons_zero, List.set_cons_succ]
     refine wpAnyH_take (i := 34) (oi := ({ dst := some 69, op := Op.pick (Operand.tmp 66) (Operand.tmp 68) (Operand.const (Value.bool false)), type := 4, pos := "files.go:55", after := #[{ on := 31, ground := Ground.data }, { on := 33, ground := Ground.data }], guard := none } : Oper)) (v := ?v34f) rfl (by kernel_rfl) (by kernel_rfl) (by kernel_rfl) (fun _ _ _ h => h) (Or.inl ⟨by rfl, ?y34f⟩) (by assumption) ?r34f
     case y34f => ((intro w hSw; (try dsimp only at hSw); go_simp) <;> with_reducible rfl)
     try simp only [Act.put, List.setIfInBounds_toArray, List.set_cons_zero, List.set_cons_succ]
     refine wpAnyH_done (by kernel_rfl) ?_ _
     have HBr := hid (kbare_at 4 b w7 (HLd.out.turned0 (HK5.out.still HT7.out).turn) ((HT7.out.cell (lt_of_cell HB.out) id).trans HB.out))
     have HK7 := hid (HK5.out.still HT7.out)
     have e4 : dup2KE o k.S y.2 n to_ = 4 := if_pos HCn.out
     have HE4 := hid e4
     clear e4
     go_wp2_with fail
     refine HBr.out.mono ?_
     rintro e w8 ⟨rfl, t8⟩
     have HR := hid (HK7.out.still t8)
     clear t8
     go_wp2_with fail
     go_returns
     rw [HE4.out]
     exact ⟨rfl, KTo.no ⟨_, HR.out⟩ HOk.out (by decide)⟩
    ·have e2 : decide (to_ < 8) = false := decide_eq_false h8
     have HNC := hid (show ¬ (o.m 1 < o.u 1 + 1 ∧ slotL y.2 to_ = none ∧ slotL y.2 n ≠ none ∧ 0 ≤ to_ ∧ to_ < 8) from fun hc => h8 hc.2.2.2.2)
     clear h0 h8
     refine wpAnyH_take (i := 31) (oi := ({ dst := some 66, op := Op.move (Operand.tmp 65), type := 4, pos := "files.go:55", after := #[{ on := 30, ground := Ground.data }, { on := 27, ground := Ground.chain }], guard := none } : Oper)) (v := ?v31g) rfl (by kernel_rfl) (by kernel_rfl) (by kernel_rfl) (fun _ _ _ h => h) (Or.inl ⟨by rfl, ?y31g⟩) (by assumption) ?r31g
     case y31g => ((intro w hSw; (try dsimp only at hSw); go_simp) <;> with_reducible rfl)
     try simp only [Act.put, List.setIfInBounds_toArray, List.set_cons_zero, List.set_cons_succ]
     refine wpAnyH_take (i := 32) (oi := ({ dst := some 67, op := Op.move (Operand.tmp 3), type := 3, pos := "files.go:55", after := #[{ on := 31, ground := Ground.guard }], guard := some (31, true) } : Oper)) (v := ?v32g) rfl (by kernel_rfl) (by kernel_rfl) (by kernel_rfl) (fun _ _ _ h => h) (Or.inl ⟨by rfl, ?y32g⟩) (by assumption) ?r32g
     case y32g => ((intro w hSw; (try dsimp only at hSw); go_simp) <;> with_reducible rfl)
     try simp only [Act.put, List.setIfInBounds_toArray, List.set_cons_zero, List.set_cons_succ]
     refine wpAnyH_take (i := 33) (oi := ({ dst := some 68, op := Op.binOp BinOp.lss 3 (Operand.tmp 67) (Operand.const (Value.int IntKind.i64 8)) 3, type := 4, pos := "files.go:55", after := #[{ on := 32, ground := Ground.data }, { on := 31, ground := Ground.guard }], guard := some (31, true) } : Oper)) (v := ?v33g) rfl (by kernel_rfl) (by kernel_rfl) (by kernel_rfl) (fun _ _ _ h => h) (Or.inl ⟨by rfl, ?y33g⟩) (by assumption) ?r33g
     case y33g => ((intro w hSw; (try dsimp only at hSw); go_simp) <;> with_reducible rfl)
     try simp only [Act.put, List.setIfInBounds_toArray, List.set_cons_zero, List.set_cons_succ]
     refine wpAnyH_take (i := 34) (oi := ({ dst := some 69, op := Op.pick (Operand.tmp 66) (Operand.tmp 68) (Operand.const (Value.bool false)), type := 4, pos := "files.go:55", after := #[{ on := 31, ground := Ground.data }, { on := 33, ground := Ground.data }], guard := none } : Oper)) (v := ?v34g) rfl (by kernel_rfl) (by kernel_rfl) (by kernel_rfl) (fun _ _ _ h => h) (Or.inl ⟨by rfl, ?y34g⟩) (by assumption) ?r34g
     case y34g => ((intro w hSw; (try dsimp only at hSw); go_simp) <;> with_reducible rfl)
     try simp only [Act.put, List.setIfInBounds_toArray, List.set_cons_zero, List.set_cons_succ]
     refine wpAnyH_done (by kernel_rfl) ?_ _
     have HK6 := hid (HK5.out.still HT7.out)
     clear HB
     go_wp2_with fail
     have hd6 := HK6.out.drewS
     have hO6 := (hd6.at_ HM.out).1
     have q1 := hO6.c1
     have q2 := hd6.c2
     have HP := hid (law_dup2 hd6.desc HOk.out.dok HOk.out.joint (by have := HOk.out.len; omega) HM.out.tab n to_)
     have HD := hid hd6
     clear hd6 hO6
     obtain ⟨z, hz⟩ : ∃ z, dup2E k.S y.2 n to_ = z := ⟨_, rfl⟩
     rw [hz] at HP
     have HZ := hid hz
     clear hz
     go_region_held3 (fun w' => w'.cell? ⟨o.ob, 1, none⟩ = some (.pointer (some ⟨y.1, 0, none⟩)) ∧ w'.cell? ⟨a.kb, 2, none⟩ = some (.pointer (some ⟨a.fb, 0, none⟩)))
      (first | exact ⟨q1, q2⟩ | exact ⟨r1, r2⟩ | go_keep)
      (first | (go_at_call 157; refine HP.out.mono ?_; rintro e w7 ⟨rfl, hd7⟩; have hK7 := HD.out.fileStep HM.out hd7; obtain ⟨C7, hI7⟩ := hK7; have HI7 := hid hI7; have r2 := hI7.c2; have hA7 := (hI7.at_ (mine_file HM.out)); have r1 := hA7.1.c1; have r3 := hA7.1.c2; have HL7 := hid hA7.2; simp only at r1 r3; clear hd7 hI7 hA7))
     all_goals
      by_cases h0 : z = 0
      ·subst h0
       rw [show TErr 0 = .nilIface from rfl]
       have hul := usedL_dup2 (fun j hj => (HOk.out.joint.pos i _ HM.out.tab j hj).1) HZ.out
       have hdn : (dup2KE o k.S y.2 n to_) = 0 := by
        unfold dup2KE
        rw [if_neg (by exact HNC.out)]
        exact HZ.out
       obtain ⟨U, hU⟩ : ∃ U, usedL (dup2L k.S y.2 n to_) = U := ⟨_, rfl⟩
       have hU8 : U ≤ 8 := by rw [← hU]; exact usedL_le _
       have hUs := used_is ((HI7.out.drewS.desc.tabs i _ (set_at HM.out.tab)).1)
       simp only at hUs
       rw [hU] at hUs hul
       have HUs2 := hid hUs
       have hV := (HOk.out.live i o x y HM.out.ko HM.out.sp HM.out.tab ⟨pid, HM.out.own⟩).2.1
       have hwy : why o.u o.m ((1 : Int), (U : Int) - usedL y.2) = 0 := by
        have h1 := why_more (HOk.out.fit i o HM.out.ko).1 1 (by omega) ((U : Int) - usedL y.2) (by rw [hul.1]; split <;> omega) (by omega)
        have h1 : why o.u o.m ((1 : Int), (U : Int) - usedL y.2) = _ := h1
        rw [h1, if_neg (by
         rintro ⟨p1, p2⟩
         by_cases h6 : slotL y.2 to_ = none
         ·exact HNC.out ⟨by have := HLm.out; omega, h6, (by intro e; have := hul.2.1; rw [e] at this; cases this), hul.2.2.1, hul.2.2.2⟩
         ·have h5 := hul.1; rw [if_neg h6] at h5; omega)]
       have HWy := hid hwy
       have HU := hid hU
       have HV := hid hV
       have HDn := hid hdn
       have tw : Turn (fun _ => False) w7 w7.drew := (Turn.refl _ _).drew
       have s1 := (tw.cell (lt_of_cell r1) id).trans r1
       have s3 := (tw.cell (lt_of_cell r3) id).trans r3
       have HLd7 := hid (HL7.out.turned tw id)
       have HId7 := hid (HI7.out.still tw)
       have hu8 : usedL y.2 ≤ 8 := usedL_le _
       have hwrap : IntKind.i64.wrap ((U : Int) - usedL y.2) = (U : Int) - usedL y.2 := IntWalk.i64_in _ (by omega)
       clear hul hdn hU hUs hV hwy tw
       go_wp2_with fail
       go_region_held3 (fun w' => w'.cell? ⟨o.ob, 1, none⟩ = some (.pointer (some ⟨y.1, 0, none⟩)) ∧ w'.cell? ⟨o.ob, 2, none⟩ = some (.pointer (some ⟨o.lb, 0, none⟩)))
        (first | exact ⟨s1, s3⟩ | exact ⟨s18, s38⟩ | exact ⟨s19, s39⟩ | go_keep)
        (first
         | (go_at_call 78; refine HUs2.out.mono ?_; rintro e w8 ⟨rfl, t8⟩; have s18 := (t8.cell (lt_of_cell s1) id).trans s1; have s38 := (t8.cell (lt_of_cell s3) id).trans s3; have HI8 := hid (HId7.out.still t8); have HCg8 := hid (charge_one (kind := 1) (n := (U : Int) - usedL y.2) (HLd7.out.turned t8 id) (HOk.out.fit i o HM.out.ko).1); unfold Charged1 at HCg8; clear t8)
         | (go_at_call 60; refine HCg8.out.mono ?_; rintro e w9 (⟨_, rfl, hl9, hf9, t9⟩ | ⟨hne, _⟩); rotate_left; exact absurd HWy.out hne; have HR9 := hid (HI8.out.fileLed HM.out hl9 t9); have HF9 := hid hf9; have hI8 := HI8.out; have s19 := (t9.cell (lt_of_cell s18) (fun e => kmark (hI8.cob i _ (set_at HM.out.ko)) (hI8.clb i _ (set_at HM.out.ko)) (by simp) e)).trans s18; have s39 := (t9.cell (lt_of_cell s38) (fun e => kmark (hI8.cob i _ (set_at HM.out.ko)) (hI8.clb i _ (set_at HM.out.ko)) (by simp) e)).trans s38; clear hl9 hf9 t9 hI8))
       all_goals go_wp2_with fail
       all_goals go_returns
       all_goals
        have eu : done o.u ((1 : Int), (U : Int) - usedL y.2) = upd o.u 1 (U : Int) := by
         unfold done
         simp only [Int.toNat_one]
         rw [HV.out, show (usedL y.2 : Int) + ((U : Int) - usedL y.2) = U by omega]
        have hr9 := HR9.out
        have hf9 := HF9.out
        rw [eu] at hr9 hf9
        have hjj := joint_dup2 HOk.out.joint HOk.out.dok (by have := HOk.out.len; omega) HM.out.tab HTok.out n to_
        rw [← HU.out] at hr9 hf9
        refine ⟨by rw [HDn.out]; rfl, _, hr9, HOk.out.file HM.out hjj.1 hjj.2 ⟨upd_other _ _ (by decide), upd_same _ _ _, upd_other _ _ (by decide)⟩ hf9, fun _ => rfl, fun e => absurd HDn.out e⟩
      ·have he := dup2_err (L := y.2) (by rw [HZ.out]; exact h0)
       have HE := hid he
       have H0 := hid h0
       have hdn : (dup2KE o k.S y.2 n to_) = z := by
        unfold dup2KE
        rw [if_neg (by exact HNC.out)]
        exact HZ.out
       have HDn := hid hdn
       rw [TErr_of h0]
       clear he hdn
       go_wp2_with fail
       go_returns
       rw [show dup2KE o k.S y.2 n to_ = z from HDn.out, TErr_of H0.out]
       exact ⟨rfl, fileK_err HM.out ⟨_, HI7.out⟩ HOk.out HE.out.1 HE.out.2 H0.out⟩
   ·have e1 : decide (0 ≤ to_) = false := decide_eq_false h0
    have e1' : decide (to_ ≥ 0) = false := decide_eq_false h0
    have HNC := hid (show ¬ (o.m 1 < o.u 1 + 1 ∧ slotL y.2 to_ = none ∧ slotL y.2 n ≠ none ∧ 0 ≤ to_ ∧ to_ < 8) from fun hc => h0 hc.2.2.2.1)
    clear h0
    refine wpAnyH_take (i := 27) (oi := ({ dst := some 62, op := Op.move (Operand.tmp 61), type := 4, pos := "files.go:55", after := #[{ on := 26, ground := Ground.data }, { on := 25, ground := Ground.chain }], guard := none } : Oper)) (v := ?v27h) rfl (by kernel_rfl) (by kernel_rfl) (by kernel_rfl) (fun _ _ _ h => h) (Or.inl ⟨by rfl, ?y27h⟩) (by assumption) ?r27h
    case y27h => ((intro w hSw; (try dsimp only at hSw); go_simp) <;> with_reducible rfl)
    try simp only [Act.put, List.setIfInBounds_toArray, List.set_cons_zero, List.set_cons_succ]
    refine wpAnyH_take (i := 28) (oi := ({ dst := some 63, op := Op.move (Operand.tmp 3), type := 3, pos := "files.go:55", after := #[{ on := 27, ground := Ground.guard }], guard := some (27, true) } : Oper)) (v := ?v28h) rfl (by kernel_rfl) (by kernel_rfl) (by kernel_rfl) (fun _ _ _ h => h) (Or.inl ⟨by rfl, ?y28h⟩) (by assumption) ?r28h
    case y28h => ((intro w hSw; (try dsimp only at hSw); go_simp) <;> with_reducible rfl)
    try simp only [Act.put, List.setIfInBounds_toArray, List.set_cons_zero, List.set_cons_succ]
    refine wpAnyH_take (i := 29) (oi := ({ dst := some 64, op := Op.binOp BinOp.geq 3 (Operand.tmp 63) (Operand.const (Value.int IntKind.i64 0)) 3, type := 4, pos := "files.go:55", after := #[{ on := 28, ground := Ground.data }, { on := 27, ground := Ground.guard }], guard := some (27, true) } : Oper)) (v := ?v29h) rfl (by kernel_rfl) (by kernel_rfl) (by kernel_rfl) (fun _ _ _ h => h) (Or.inl ⟨by rfl, ?y29h⟩) (by assumption) ?r29h
    case y29h => ((intro w hSw; (try dsimp only at hSw); go_simp) <;> with_reducible rfl)
    try simp only [Act.put, List.setIfInBounds_toArray, List.set_cons_zero, List.set_cons_succ]
    refine wpAnyH_take (i := 30) (oi := ({ dst := some 65, op := Op.pick (Operand.tmp 62) (Operand.tmp 64) (Operand.const (Value.bool false)), type := 4, pos := "files.go:55", after := #[{ on := 27, ground := Ground.data }, { on := 29, ground := Ground.data }], guard := none } : Oper)) (v := ?v30h) rfl (by kernel_rfl) (by kernel_rfl) (by kernel_rfl) (fun _ _ _ h => h) (Or.inl ⟨by rfl, ?y30h⟩) (by assumption) ?r30h
    case y30h => ((intro w hSw; (try dsimp only at hSw); go_simp) <;> with_reducible rfl)
    try simp only [Act.put, List.setIfInBounds_toArray, List.set_cons_zero, List.set_cons_succ]
    refine wpAnyH_take (i := 31) (oi := ({ dst := some 66, op := Op.move (Operand.tmp 65), type := 4, pos := "files.go:55", after := #[{ on := 30, ground := Ground.data }, { on := 27, ground := Ground.chain }], guard := none } : Oper)) (v := ?v31h) rfl (by kernel_rfl) (by kernel_rfl) (by kernel_rfl) (fun _ _ _ h => h) (Or.inl ⟨by rfl, ?y31h⟩) (by assumption) ?r31h
    case y31h => ((intro w hSw; (try dsimp only at hSw); go_simp) <;> with_reducible rfl)
    try simp only [Act.put, List.setIfInBounds_toArray, List.set_cons_zero, List.set_cons_succ]
    refine wpAnyH_take (i := 32) (oi := ({ dst := some 67, op := Op.move (Operand.tmp 3), type := 3, pos := "files.go:55", after := #[{ on := 31, ground := Ground.guard }], guard := some (31, true) } : Oper)) (v := undef) rfl (by kernel_rfl) (by kernel_rfl) (by kernel_rfl) (fun _ _ _ h => h) (Or.inr ⟨by rfl, rfl⟩) (by assumption) ?_
    try simp only [Act.put, List.setIfInBounds_toArray, List.set_cons_zero, List.set_cons_succ]
    refine wpAnyH_take (i := 33) (oi := ({ dst := some 68, op := Op.binOp BinOp.lss 3 (Operand.tmp 67) (Operand.const (Value.int IntKind.i64 8)) 3, type := 4, pos := "files.go:55", after := #[{ on := 32, ground := Ground.data }, { on := 31, ground := Ground.guard }], guard := some (31, true) } : Oper)) (v := undef) rfl (by kernel_rfl) (by kernel_rfl) (by kernel_rfl) (fun _ _ _ h => h) (Or.inr ⟨by rfl, rfl⟩) (by assumption) ?_
    try simp only [Act.put, List.setIfInBounds_toArray, List.set_cons_zero, List.set_cons_succ]
    refine wpAnyH_take (i := 34) (oi := ({ dst := some 69, op := Op.pick (Operand.tmp 66) (Operand.tmp 68) (Operand.const (Value.bool false)), type := 4, pos := "files.go:55", after := #[{ on := 31, ground := Ground.data }, { on := 33, ground := Ground.data }], guard := none } : Oper)) (v := ?v34h) rfl (by kernel_rfl) (by kernel_rfl) (by kernel_rfl) (fun _ _ _ h => h) (Or.inl ⟨by rfl, ?y34h⟩) (by assumption) ?r34h
    case y34h => ((intro w hSw; (try dsimp only at hSw); go_simp) <;> with_reducible rfl)
    try simp only [Act.put, List.setIfInBounds_toArray, List.set_cons_zero, List.set_cons_succ]
    refine wpAnyH_done (by kernel_rfl) ?_ _
    have HK6 := hid (HK5.out.still HT7.out)
    clear HB
    go_wp2_with fail
    have hd6 := HK6.out.drewS
    have hO6 := (hd6.at_ HM.out).1
    have q1 := hO6.c1
    have q2 := hd6.c2
    have HP := hid (law_dup2 hd6.desc HOk.out.dok HOk.out.joint (by have := HOk.out.len; omega) HM.out.tab n to_)
    have HD := hid hd6
    clear hd6 hO6
    obtain ⟨z, hz⟩ : ∃ z, dup2E k.S y.2 n to_ = z := ⟨_, rfl⟩
    rw [hz] at HP
    have HZ := hid hz
    clear hz
    go_region_held3 (fun w' => w'.cell? ⟨o.ob, 1, none⟩ = some (.pointer (some ⟨y.1, 0, none⟩)) ∧ w'.cell? ⟨a.kb, 2, none⟩ = some (.pointer (some ⟨a.fb, 0, none⟩)))
     (first | exact ⟨q1, q2⟩ | exact ⟨r1, r2⟩ | go_keep)
     (first | (go_at_call 157; refine HP.out.mono ?_; rintro e w7 ⟨rfl, hd7⟩; have hK7 := HD.out.fileStep HM.out hd7; obtain ⟨C7, hI7⟩ := hK7; have HI7 := hid hI7; have r2 := hI7.c2; have hA7 := (hI7.at_ (mine_file HM.out)); have r1 := hA7.1.c1; have r3 := hA7.1.c2; have HL7 := hid hA7.2; simp only at r1 r3; clear hd7 hI7 hA7))
    all_goals
     by_cases h0 : z = 0
     ·subst h0
      rw [show TErr 0 = .nilIface from rfl]
      have hul := usedL_dup2 (fun j hj => (HOk.out.joint.pos i _ HM.out.tab j hj).1) HZ.out
      have hdn : (dup2KE o k.S y.2 n to_) = 0 := by
       unfold dup2KE
       rw [if_neg (by exact HNC.out)]
       exact HZ.out
      obtain ⟨U, hU⟩ : ∃ U, usedL (dup2L k.S y.2 n to_) = U := ⟨_, rfl⟩
      have hU8 : U ≤ 8 := by rw [← hU]; exact usedL_le _
      have hUs := used_is ((HI7.out.drewS.desc.tabs i _ (set_at HM.out.tab)).1)
      simp only at hUs
      rw [hU] at hUs hul
      have HUs2 := hid hUs
      have hV := (HOk.out.live i o x y HM.out.ko HM.out.sp HM.out.tab ⟨pid, HM.out.own⟩).2.1
      have hwy : why o.u o.m ((1 : Int), (U : Int) - usedL y.2) = 0 := by
       have h1 := why_more (HOk.out.fit i o HM.out.ko).1 1 (by omega) ((U : Int) - usedL y.2) (by rw [hul.1]; split <;> omega) (by omega)
       have h1 : why o.u o.m ((1 : Int), (U : Int) - usedL y.2) = _ := h1
       rw [h1, if_neg (by
        rintro ⟨p1, p2⟩
        by_cases h6 : slotL y.2 to_ = none
        ·exact HNC.out ⟨by have := HLm.out; omega, h6, (by intro e; have := hul.2.1; rw [e] at this; cases this), hul.2.2.1, hul.2.2.2⟩
        ·have h5 := hul.1; rw [if_neg h6] at h5; omega)]
      have HWy := hid hwy
      have HU := hid hU
      have HV := hid hV
      have HDn := hid hdn
      have tw : Turn (fun _ => False) w7 w7.drew := (Turn.refl _ _).drew
      have s1 := (tw.cell (lt_of_cell r1) id).trans r1
      have s3 := (tw.cell (lt_of_cell r3) id).trans r3
      have HLd7 := hid (HL7.out.turned tw id)
      have HId7 := hid (HI7.out.still tw)
      have hu8 : usedL y.2 ≤ 8 := usedL_le _
      have hwrap : IntKind.i64.wrap ((U : Int) - usedL y.2) = (U : Int) - usedL y.2 := IntWalk.i64_in _ (by omega)
      clear hul hdn hU hUs hV hwy tw
      go_wp2_with fail
      go_region_held3 (fun w' => w'.cell? ⟨o.ob, 1, none⟩ = some (.pointer (some ⟨y.1, 0, none⟩)) ∧ w'.cell? ⟨o.ob, 2, none⟩ = some (.pointer (some ⟨o.lb, 0, none⟩)))
       (first | exact ⟨s1, s3⟩ | exact ⟨s18, s38⟩ | exact ⟨s19, s39⟩ | go_keep)
       (first
        | (go_at_call 78; refine HUs2.out.mono ?_; rintro e w8 ⟨rfl, t8⟩; have s18 := (t8.cell (lt_of_cell s1) id).trans s1; have s38 := (t8.cell (lt_of_cell s3) id).trans s3; have HI8 := hid (HId7.out.still t8); have HCg8 := hid (charge_one (kind := 1) (n := (U : Int) - usedL y.2) (HLd7.out.turned t8 id) (HOk.out.fit i o HM.out.ko).1); unfold Charged1 at HCg8; clear t8)
        | (go_at_call 60; refine HCg8.out.mono ?_; rintro e w9 (⟨_, rfl, hl9, hf9, t9⟩ | ⟨hne, _⟩); rotate_left; exact absurd HWy.out hne; have HR9 := hid (HI8.out.fileLed HM.out hl9 t9); have HF9 := hid hf9; have hI8 := HI8.out; have s19 := (t9.cell (lt_of_cell s18) (fun e => kmark (hI8.cob i _ (set_at HM.out.ko)) (hI8.clb i _ (set_at HM.out.ko)) (by simp) e)).trans s18; have s39 := (t9.cell (lt_of_cell s38) (fun e => kmark (hI8.cob i _ (set_at HM.out.ko)) (hI8.clb i _ (set_at HM.out.ko)) (by simp) e)).trans s38; clear hl9 hf9 t9 hI8))
      all_goals go_wp2_with fail
      all_goals go_returns
      all_goals
       have eu : done o.u ((1 : Int), (U : Int) - usedL y.2) = upd o.u 1 (U : Int) := by
        unfold done
        simp only [Int.toNat_one]
        rw [HV.out, show (usedL y.2 : Int) + ((U : Int) - usedL y.2) = U by omega]
       have hr9 := HR9.out
       have hf9 := HF9.out
       rw [eu] at hr9 hf9
       have hjj := joint_dup2 HOk.out.joint HOk.out.dok (by have := HOk.out.len; omega) HM.out.tab HTok.out n to_
       rw [← HU.out] at hr9 hf9
       refine ⟨by rw [HDn.out]; rfl, _, hr9, HOk.out.file HM.out hjj.1 hjj.2 ⟨upd_other _ _ (by decide), upd_same _ _ _, upd_other _ _ (by decide)⟩ hf9, fun _ => rfl, fun e => absurd HDn.out e⟩
     ·have he := dup2_err (L := y.2) (by rw [HZ.out]; exact h0)
      have HE := hid he
      have H0 := hid h0
      have hdn : (dup2KE o k.S y.2 n to_) = z := by
       unfold dup2KE
       rw [if_neg (by exact HNC.out)]
       exact HZ.out
      have HDn := hid hdn
      rw [TErr_of h0]
      clear he hdn
      go_wp2_with fail
      go_returns
      rw [show dup2KE o k.S y.2 n to_ = z from HDn.out, TErr_of H0.out]
      exact ⟨rfl, fileK_err HM.out ⟨_, HI7.out⟩ HOk.out HE.out.1 HE.out.2 H0.out⟩
theorem kdup2_yes (h : KIn W w a k C) (hok : KOk k) (hm : Mine k pid i o x y) (hLd : Laid W) (n to_ : Int) :
  Calls Tryz.prog 73 #[.pointer (some ⟨a.kb, 0, none⟩), .int .i64 pid, .int .i64 n, .int .i64 to_] w (fun e w' => Dup2To W a k i o y n to_ e w') := by
 by_cases hl : o.m 1 < o.u 1 + 1
 ·exact kdup2_full h hok hm hLd n to_ hl
 ·exact kdup2_room h hok hm hLd n to_ hl
end
end Go.Proofs.YtamleilijmgoeaaGreatDoor
namespace Go.Proofs.YtamleilijmgoeaaGreatDoor
open Go.RowKit
set_option linter.unusedVariables false
section
variable {W w w' w1 : World} {a : KA} {k : KS} {C C' : Nat → Nat × Nat} {pid : Int} {i j : Nat} {o o' : KO} {x : Spc} {y : Nat × PTab} {S S' : PS} {L L' L0 : PTab} {ts : List (Nat × PTab)} {tab : Nat} {t' : St} {u' v' : Nat → Int} {n : Int}
theorem usedL_close_le (S : PS) (L : PTab) (n : Int) (h : n.toNat < 8) : usedL (closeL S L n) ≤ usedL L := by
 unfold closeL
 cases he : entL S L n with
 | none => exact Nat.le_refl _
 | some z =>
  simp only [Option.elim]
  have h1 := usedL_set (L := L) (j := n.toNat) (x := (0, false)) h
  have h2 : usX ((0 : Int), false) = 0 := rfl
  omega
theorem usedL_clear_le (c : Bool) : ∀ (f i : Nat) (S : PS) (L : PTab), i + f ≤ 8 → usedL (clearFrom L0 c f i S L).2 ≤ usedL L
 | 0, _, _, _, _ => Nat.le_refl _
 | f + 1, i, S, L, hi => by
  by_cases hc : 0 < (L0 i).1 ∧ (c = true ∨ (L0 i).2 = true)
  ·rw [clear_go f i hc]
   exact Nat.le_trans (usedL_clear_le c f (i + 1) _ _ (by omega)) (usedL_close_le S L i (by simp only [Int.toNat_natCast]; omega))
  ·rw [clear_no f i hc]
   exact usedL_clear_le c f (i + 1) S L (by omega)
theorem charge_two {lb : Nat} {u m : Nat → Int} (h : LedgerIs w lb u m) (hf : Fit u m) (k1 n1 k2 n2 : Int) (h1 : why u m (k1, n1) = 0) (h2 : why (done u (k1, n1)) m (k2, n2) = 0) :
  Calls Tryz.prog 60 #[.pointer (some ⟨lb, 0, none⟩), .slice (some ⟨w.heap.size, 0, none⟩) 2 2] (w.alloc (.cells #[.int .i64 k1, .int .i64 n1, .int .i64 k2, .int .i64 n2] 129)) (fun e w' => e = .returned .nilIface ∧ LedgerIs w' lb (done (done u (k1, n1)) (k2, n2)) m ∧ Fit (done (done u (k1, n1)) (k2, n2)) m ∧ Turn (fun j => j = lb) w w') := by
 have ta : Turn (fun _ => False) w (w.alloc (.cells #[.int .i64 k1, .int .i64 n1, .int .i64 k2, .int .i64 n2] 129)) := (Turn.refl _ _).alloc _
 refine (charge_any (h.turned ta id) hf (some ⟨w.heap.size, 0, none⟩) [(k1, n1), (k2, n2)] 2 (by simp) (fun _ => ⟨w.heap.size, 0, rfl, fun j z hz => ?_, by simp⟩)).mono ?_
 ·match j with
  | 0 => simp at hz; subst hz; simp
  | 1 => simp at hz; subst hz; simp
  | j + 2 => simp at hz
 ·rintro e w' (⟨v, hc, hfit, rfl, hl, t⟩ | ⟨er, i, b, hc, hne, rfl, h0, h1, hb, t⟩)
  ·unfold chg at hc
   rw [if_pos h1] at hc
   unfold chg at hc
   rw [if_pos h2] at hc
   unfold chg at hc
   cases hc
   exact ⟨rfl, hl, hfit, (ta.mono (fun _ _ h => h.elim)).trans t⟩
  ·exfalso
   rename_i h1'
   unfold chg at hc
   rw [if_pos h1'] at hc
   unfold chg at hc
   rw [if_pos h2] at hc
   unfold chg at hc
   cases hc
def execK (k : KS) (i : Nat) (o : KO) (x : Spc) (y : Nat × PTab) (t' : St) : KS :=
  { k with t := t', l := k.l.set i ⟨x.sp, x.pm, fun _ => none⟩, S := clearS k.S y.2 false, ts := k.ts.set i (y.1, clearL k.S y.2 false), os := k.os.set i { o with u := upd (upd o.u 0 0) 1 (usedL (clearL k.S y.2 false)) } }
def ExecTo (W : World) (a : KA) (k : KS) (i : Nat) (o : KO) (x : Spc) (y : Nat × PTab) (e : Ending) (w' : World) : Prop :=
 e = .returned .nilIface ∧ ∃ t', t'.m = k.t.m ∧ KIs W w' a (execK k i o x y t') ∧ DOk (clearS k.S y.2 false) ∧ Joint (clearS k.S y.2 false) (k.ts.set i (y.1, clearL k.S y.2 false)) ∧ Fit (upd (upd o.u 0 0) 1 (usedL (clearL k.S y.2 false))) o.m
set_option maxHeartbeats 2000000 in
set_option maxRecDepth 100000 in
theorem kexec_yes (h : KIn W w a k C) (hok : KOk k) (hm : Mine k pid i o x y) :
  Calls Tryz.prog 33 #[.pointer (some ⟨a.kb, 0, none⟩), .int .i64 pid] w (fun e w' => ExecTo W a k i o x y e w') := by
 have HW := hid (who_yes h hok hm.own hm.ko)
 obtain ⟨hO, hL⟩ := h.at_ hm
 have c0 := hO.c0
 have H := hid h
 have HOk := hid hok
 have HM := hid hm
 have HLen := hid (vmLen_is (h.vm.sps i x hm.sp))
 have hcl := vmClear_is (h.vm.at hm.sp)
 unfold Cleared at hcl
 have HCl := hid hcl
 have hlv := hok.live i o x y hm.ko hm.sp hm.tab ⟨pid, hm.own⟩
 have hfit := (hok.fit i o hm.ko).1
 have hf0 := hfit 0 (by omega)
 have hf1 := hfit 1 (by omega)
 have hle : usedL (clearL k.S y.2 false) ≤ usedL y.2 := usedL_clear_le false 8 0 k.S y.2 (by omega)
 obtain ⟨N, hN⟩ : ∃ N : Nat, usedL (clearL k.S y.2 false) = N := ⟨_, rfl⟩
 rw [hN] at hle
 have w1 : why o.u o.m ((0 : Int), -(o.u 0)) = 0 := why_less hfit 0 (by omega) _ hf0.1 (Int.le_refl _)
 have d1 : done o.u ((0 : Int), -(o.u 0)) = upd o.u 0 0 := by
  funext j
  show upd o.u 0 (o.u 0 + -(o.u 0)) j = _
  rw [show o.u 0 + -(o.u 0) = 0 by omega]
 have hfit1 : Fit (upd o.u 0 0) o.m := fun j hj => by
  have h3 := hfit j hj
  by_cases e : j = 0
  ·subst e; rw [upd_same]; exact ⟨by omega, by omega, h3.2.2⟩
  ·rw [upd_other _ _ e]; exact h3
 have w2 : why (done o.u ((0 : Int), -(o.u 0))) o.m ((1 : Int), -(o.u 1 - N)) = 0 := by
  rw [d1]
  exact why_less hfit1 1 (by omega) _ (by rw [hlv.2.1]; omega) (by rw [upd_other _ _ (by decide)]; omega)
 have d2 : done (done o.u ((0 : Int), -(o.u 0))) ((1 : Int), -(o.u 1 - N)) = upd (upd o.u 0 0) 1 N := by
  rw [d1]
  funext j
  show upd (upd o.u 0 0) 1 (upd o.u 0 0 1 + -(o.u 1 - N)) j = _
  rw [upd_other o.u (k := 0) (j := 1) 0 (by decide), show o.u 1 + -(o.u 1 - N) = N by omega]
 have HW1 := hid w1
 have HW2 := hid w2
 have HD2 := hid d2
 have HFit := hid hfit
 have HN := hid hN
 have HLv := hid hlv.1
 have hU1 := hlv.2.1
 have hu8 := usedL_le y.2
 have k1 : IntKind.i64.wrap (-(o.u 0)) = -(o.u 0) := IntWalk.i64_in _ (by omega)
 have k2 : IntKind.i64.wrap (o.u 1 - (N : Int)) = o.u 1 - N := IntWalk.i64_in _ (by omega)
 have k3 : IntKind.i64.wrap (-(o.u 1 - (N : Int))) = -(o.u 1 - N) := IntWalk.i64_in _ (by omega)
 have HK1 := hid k1
 have HK2 := hid k2
 have HK3 := hid k3
 rw [← hlv.1] at HLen
 clear h hok hm hO hL hcl hlv hfit hf0 hf1 hle hN w1 d1 hfit1 w2 d2 hU1 hu8
 go_enter Tryz.func33, Tryz.ntmps33
 go_wp2_with fail
 refine HW.out.mono ?_
 rintro e w1 ⟨rfl, hw⟩; subst w1
 go_wp2_with fail
 refine HLen.out.mono ?_
 rintro e w2 ⟨rfl, hw⟩; subst w2
 go_wp2_with fail
 refine HCl.out.mono ?_
 rintro e w3 ⟨rfl, t3, hm3, hA3⟩
 obtain ⟨C3, hK3⟩ := H.out.vmAt HM.out.sp hA3
 have HK3' := hid hK3
 have HM3 := hid hm3
 obtain ⟨x3, y3, hx3, hy3, hO3, hL3⟩ := hK3.own i o HM.out.ko
 have hy4 : y3 = y := by
  have := HM.out.tab
  rw [show k.ts[i]? = some y3 from hy3] at this
  exact Option.some.inj this
 rw [hy4] at hO3
 have td : Turn (fun _ => False) w3 w3.drew := (Turn.refl _ _).drew
 have HEx := hid (law_exec ((hK3.still td).desc) HOk.out.dok HOk.out.joint HM.out.tab)
 have q1 := (td.cell (lt_of_cell hO3.c1) id).trans hO3.c1
 have q2 := (td.cell (lt_of_cell hK3.c2) id).trans hK3.c2
 have HTd := hid td
 clear hA3 hK3 hm3 hx3 hy3 hO3 hL3 hy4 td c0
 go_wp2_with fail
 go_region_held3 (fun w' => w'.cell? ⟨o.ob, 1, none⟩ = some (.pointer (some ⟨y.1, 0, none⟩)) ∧ w'.cell? ⟨a.kb, 2, none⟩ = some (.pointer (some ⟨a.fb, 0, none⟩)))
  (first | exact ⟨q1, q2⟩ | exact ⟨r1, r2⟩ | go_keep)
  (first | (go_at_call 86; refine HEx.out.mono ?_; rintro e w4 ⟨rfl, hd4, hok4, hj4⟩; obtain ⟨C4, hK4⟩ := (HK3'.out.still HTd.out).descStep hd4 (tab_first HM.out.tab); have HK4 := hid hK4; have HOk4 := hid hok4; have HJ4 := hid hj4; have r2 := hK4.c2; have r1 := (hK4.at_ (pid := pid) (i := i) (o := o) ⟨HM.out.own, HM.out.ko, set_at HM.out.sp, set_at HM.out.tab⟩).1.c1; clear hd4 hok4 hj4 hK4))
 all_goals
  have hK4d := HK4.out.drewS
  have hat := hK4d.at_ (pid := pid) (i := i) (o := o) ⟨HM.out.own, HM.out.ko, set_at HM.out.sp, set_at HM.out.tab⟩
  have s1 := hat.1.c1
  have s2 := hat.1.c2
  have HUa := hid (aused_is hat.2 1 (by omega))
  have hus := used_is (hK4d.desc.tabs i _ (set_at HM.out.tab)).1
  simp only at hus
  rw [HN.out] at hus
  have HUs := hid hus
  have HK4d := hid hK4d
  clear hK4d hat hus r1 r2 q1 q2
  go_wp2_with fail
  go_region_held3 (fun w' => w'.cell? ⟨o.ob, 1, none⟩ = some (.pointer (some ⟨y.1, 0, none⟩)) ∧ w'.cell? ⟨o.ob, 2, none⟩ = some (.pointer (some ⟨o.lb, 0, none⟩)))
   (first | exact ⟨s1, s2⟩ | exact ⟨v1, v2⟩ | go_keep)
   (first
    | (go_at_call 87; refine HUa.out.mono ?_; rintro e w6 ⟨rfl, hw6⟩; subst w6)
    | (go_at_call 78; refine HUs.out.mono ?_; rintro e w7 ⟨rfl, t7⟩; have hK7 := HK4d.out.still t7; have hat7 := hK7.at_ (pid := pid) (i := i) (o := o) ⟨HM.out.own, HM.out.ko, set_at HM.out.sp, set_at HM.out.tab⟩; have v1 := hat7.1.c1; have v2 := hat7.1.c2; have HL7 := hid hat7.2; have HK7 := hid hK7; clear t7 hK7 hat7))
  all_goals
   have hc2 := charge_two HL7.out HFit.out 0 (-(o.u 0)) 1 (-(o.u 1 - N)) HW1.out HW2.out
   rw [HD2.out] at hc2
   have HC2 := hid hc2
   have k1 := HK1.out
   have k2 := HK2.out
   have k3 := HK3.out
   clear hc2
   go_wp2_with fail
   refine HC2.out.mono ?_
   rintro e w8 ⟨rfl, hl8, hf8, t8⟩
   have HR := hid (HK7.out.ledger (i := i) (o := o) HM.out.ko hl8 t8)
   have HF8 := hid hf8
   clear hl8 hf8 t8
   go_wp2_with fail
   go_returns
   refine ⟨rfl, t3, HM3.out, ?_, HOk4.out, HJ4.out, ?_⟩
   ·unfold execK
    rw [HN.out]
    exact HR.out
   ·rw [HN.out]
    exact HF8.out
theorem KOk.exec (h : KOk k) (hm : Mine k pid i o x y) (hd : DOk (clearS k.S y.2 false)) (hj : Joint (clearS k.S y.2 false) (k.ts.set i (y.1, clearL k.S y.2 false))) (hf : Fit (upd (upd o.u 0 0) 1 (usedL (clearL k.S y.2 false))) o.m) : KOk (execK k i o x y t') := by
 refine ⟨h.kin, hd, hj, ⟨by unfold execK; simp only [List.length_set]; exact h.len.1, by unfold execK; simp only [List.length_set]; exact h.len.2.1, by unfold execK; simp only [List.length_set]; exact h.len.2.2⟩, h.run, h.nd, h.inj, fun j p v z hp hv hz hown => ?_, fun j p hp => ?_, fun j v z hv hz hno => ?_, fun q j hq => by unfold execK; simp only [List.length_set]; exact h.lt q j hq⟩
 ·rcases get_set_cases hp with ⟨rfl, rfl, _⟩ | ⟨hne, hp⟩
  ·rcases get_set_cases hv with ⟨_, rfl, _⟩ | ⟨hne, _⟩
   ·rcases get_set_cases hz with ⟨_, rfl, _⟩ | ⟨hne, _⟩
    ·have hl := h.live j o x y hm.ko hm.sp hm.tab hown
     refine ⟨?_, ?_, ?_⟩
     ·show upd (upd o.u 0 0) 1 (usedL (clearL k.S y.2 false) : Int) 0 = _
      rw [upd_other _ _ (by decide), upd_same]
      show (0 : Int) = ((lenP (fun _ => none) : Nat) : Int)
      rw [lenP_none]; rfl
     ·show upd (upd o.u 0 0) 1 (usedL (clearL k.S y.2 false) : Int) 1 = (usedL (clearL k.S y.2 false) : Int)
      rw [upd_same]
     ·show upd (upd o.u 0 0) 1 (usedL (clearL k.S y.2 false) : Int) 2 = 0
      rw [upd_other _ _ (by decide), upd_other _ _ (by decide)]
      exact hl.2.2
    ·exact absurd rfl hne
   ·exact absurd rfl hne
  ·rcases get_set_cases hv with ⟨e, _⟩ | ⟨_, hv⟩
   ·exact absurd e hne
   ·rcases get_set_cases hz with ⟨e, _⟩ | ⟨_, hz⟩
    ·exact absurd e hne
    ·exact h.live j p v z hp hv hz hown
 ·rcases get_set_cases hp with ⟨rfl, rfl, _⟩ | ⟨hne, hp⟩
  ·exact ⟨hf, (h.fit j o hm.ko).2⟩
  ·exact h.fit j p hp
 ·rcases get_set_cases hz with ⟨rfl, rfl, _⟩ | ⟨hne, hz⟩
  ·exact absurd ⟨pid, hm.own⟩ hno
  ·rcases get_set_cases hv with ⟨e, _⟩ | ⟨_, hv⟩
   ·exact absurd e hne
   ·exact h.dead j v z hv hz hno
end
end Go.Proofs.YtamleilijmgoeaaGreatDoor
namespace Go.Proofs.YtamleilijmgoeaaGreatDoor
open Go.RowKit
set_option linter.unusedVariables false
section
variable {W w w' w1 : World} {a : KA} {k : KS} {C C' : Nat → Nat × Nat} {pid : Int} {i j : Nat} {o o' : KO} {x : Spc} {y : Nat × PTab} {pl : List (Int × Nat)} {pf pf' : Nat → Pr} {r : Nat}
def TookF (pl : List (Int × Nat)) (pf : Nat → Pr) (q : Int) (r : Nat) (pf' : Nat → Pr) : Prop :=
 ∃ b Wt : Nat, mget pl q = some b ∧ (pf b).waits = (Wt : Nat) ∧ Wt < 512 ∧ LeastSig Wt r ∧ pf' = updPr pf b (takenR (pf b) Wt r)
theorem ktake_is (h : KIn W w a k C) (hok : KOk k) (hr : RunsIn k.pl k.pf pid) :
  Calls Tryz.prog 97 #[.pointer (some ⟨a.pb, 0, none⟩), .int .i64 pid] w fun e w' => ∃ (r : Nat) (pf' : Nat → Pr), e = .returned (.int .i64 (r : Nat)) ∧ TookF k.pl k.pf pid r pf' ∧ KIs W w' a { k with pf := pf' } ∧ KOk { k with pf := pf' } ∧ Quiet k.pl k.pf pf' := by
 obtain ⟨b, hb⟩ := runs_block hr
 have hm := mem_of_mget hb
 obtain ⟨Wt, I, e1, e2, w9, i9⟩ := hok.kin.bits _ hm
 simp only at e1 e2
 refine (take_runs h.pr pid b Wt hr hb e1 w9).mono ?_
 rintro e w' ⟨r, hl, rfl, hT, t⟩
 have hq : Quiet k.pl k.pf (updPr k.pf b (takenR (k.pf b) Wt r)) := by
  refine Quiet.upd b _ ?_ ?_ ?_ <;> (unfold takenR; split <;> rfl)
 have hk : Kin k.pl (updPr k.pf b (takenR (k.pf b) Wt r)) := by
  refine hok.kin.upd b _ ?_ ?_ ?_
  ·unfold takenR; split <;> rfl
  ·unfold takenR; split <;> rfl
  ·unfold takenR; split
   ·exact ⟨Wt, I, e1, e2, w9, i9⟩
   ·rcases hl with ⟨_, h8, _⟩ | ⟨h0, _⟩
    ·exact ⟨_, I, rfl, e2, offR_lt w9 h8, i9⟩
    ·exact absurd h0 ‹_›
 exact ⟨r, _, rfl, ⟨b, Wt, hb, e1, w9, hl, rfl⟩, h.prStep hT (t.mono (fun j _ e => .inr (.inr (List.mem_map.2 ⟨_, hm, e.symm⟩)))) (fun j hj => .inl hj), hok.quiet hq hk, hq⟩
def SignalTo (W : World) (a : KA) (k : KS) (pid : Int) (i : Nat) (x : Spc) (y : Nat × PTab) (e : Ending) (w' : World) : Prop :=
 ∃ (r : Nat) (pf' : Nat → Pr), TookF k.pl k.pf pid r pf' ∧ Quiet k.pl k.pf pf' ∧ ((r = 0 ∧ e = .returned (.tuple #[.bool false, .nilIface]) ∧ KIs W w' a { k with pf := pf' } ∧ KOk { k with pf := pf' }) ∨ (r ≠ 0 ∧ e = .returned (.tuple #[.bool true, .nilIface]) ∧ KTo W a { k with pf := pf' } 0 (fun k' => ∃ t' b, t'.m = k.t.m ∧ mget k.pl pid = some b ∧ k' = exitK { k with pf := pf' } pid i x y b (100 + r) t') w'))
set_option maxHeartbeats 2000000 in
set_option maxRecDepth 100000 in
theorem ksignal_yes (h : KIn W w a k C) (hok : KOk k) (hm : Mine k pid i o x y) (h1 : pid ≠ 1) :
  Calls Tryz.prog 38 #[.pointer (some ⟨a.kb, 0, none⟩), .int .i64 pid] w (fun e w' => SignalTo W a k pid i x y e w') := by
 have HW := hid (who_yes h hok hm.own hm.ko)
 have HT := hid (ktake_is h hok ((hok.run pid).2 (by rw [hm.own]; rfl)))
 have c3 := h.c3
 have HM := hid hm
 have H1 := hid h1
 have hb1 : (pid != 1) = true := by simpa using h1
 have hb2 : (pid == 1) = false := by simpa using h1
 clear h hok hm h1
 go_enter Tryz.func38, Tryz.ntmps38
 go_wp2_with fail
 refine HW.out.mono ?_
 rintro e w1 ⟨rfl, hw⟩; subst w1
 go_wp2_with fail
 go_loopg [8] (0) (fun g v wr => wr = w)
 case atStart => rfl
 case round =>
  subst hrel
  go_wp2_with fail
  refine HT.out.mono ?_
  rintro e w2 ⟨r, pf', rfl, htk, ⟨C2, hk2⟩, hok2, hq2⟩
  have hr8 : r ≤ 8 := by
   obtain ⟨_, _, _, _, _, hl, _⟩ := htk
   rcases hl with ⟨_, h8, _⟩ | ⟨h0, _⟩ <;> omega
  have HTk := hid htk
  have HOk2 := hid hok2
  have HQ2 := hid hq2
  by_cases hr : r = 0
  ·subst hr
   have HK2 := hid hk2
   clear htk hk2 hok2 hq2
   go_wp2_with fail
   go_returns
   exact ⟨0, pf', HTk.out, HQ2.out, .inl ⟨rfl, rfl, ⟨C2, HK2.out⟩, HOk2.out⟩⟩
  ·have HEx := hid (kexit_yes hk2 hok2 (pid := pid) (i := i) (o := o) (x := x) (y := y) ⟨HM.out.own, HM.out.ko, HM.out.sp, HM.out.tab⟩ (100 + r))
   unfold ExitTo at HEx
   rw [show exE pid = 0 from if_neg H1.out, show VmErr 0 = .nilIface from rfl] at HEx
   have hbe : ((r : Int) == 0) = false := by
    rw [beq_eq_false_iff_ne]; omega
   have hwr : IntKind.i64.wrap (100 + (r : Int)) = 100 + r := IntWalk.i64_in _ (by omega)
   have HR := hid hr
   clear htk hk2 hok2 hq2 hr
   go_wp2_with fail
   refine HEx.out.mono ?_
   rintro e w3 ⟨rfl, hto⟩
   have HTo := hid hto
   clear hto
   go_wp2_with fail
   go_returns
   exact ⟨r, pf', HTk.out, HQ2.out, .inr ⟨HR.out, rfl, HTo.out⟩⟩
theorem off_less : ∀ (w : Fin 512) (r : Fin 9), w.val.testBit r.val = true → offR w.val r.val < w.val := by decide +kernel
theorem updPr_self (f : Nat → Pr) (b : Nat) (p : Pr) (h : p = f b) : updPr f b p = f := by
 subst h
 funext j
 unfold updPr
 by_cases e : j = b
 ·subst e; simp
 ·simp [e]
theorem updPr_twice (f : Nat → Pr) (b : Nat) (p q : Pr) : updPr (updPr f b p) b q = updPr f b q := by
 funext j
 unfold updPr
 by_cases e : j = b
 ·subst e; simp
 ·simp [e]
theorem updPr_at (f : Nat → Pr) (b : Nat) (p : Pr) : updPr f b p b = p := by unfold updPr; simp
def waitF (pf : Nat → Pr) (b Wt : Nat) : Nat → Pr := updPr pf b { pf b with waits := (Wt : Nat) }
theorem took_wait {b Wt r : Nat} {q : Int} (hb : mget pl q = some b) (h : TookF pl (waitF pf b Wt) q r pf') : Wt < 512 ∧ LeastSig Wt r ∧ pf' = waitF pf b (if r = 0 then Wt else offR Wt r) := by
 obtain ⟨b2, W2, h1, h2, h3, h4, h5⟩ := h
 rw [hb] at h1
 cases h1
 have e : W2 = Wt := by
  unfold waitF at h2
  rw [updPr_at] at h2
  exact (Int.ofNat.inj h2).symm
 subst e
 refine ⟨h3, h4, ?_⟩
 rw [h5]
 unfold takenR
 by_cases hr : r = 0
 ·rw [if_pos hr, if_pos hr]
  exact updPr_self _ _ _ rfl
 ·rw [if_neg hr, if_neg hr]
  unfold waitF
  rw [updPr_twice, updPr_at]
def SignalOneTo (W : World) (a : KA) (k : KS) (b : Nat) (e : Ending) (w' : World) : Prop :=
 e = .returned (.tuple #[.bool false, .nilIface]) ∧ ∃ Wt : Nat, Wt < 512 ∧ (∀ i, 1 ≤ i → i ≤ 8 → Wt.testBit i = false) ∧ KIs W w' a { k with pf := waitF k.pf b Wt } ∧ KOk { k with pf := waitF k.pf b Wt }
set_option maxHeartbeats 2000000 in
set_option maxRecDepth 100000 in
theorem ksignal_one (h : KIn W w a k C) (hok : KOk k) (hm : Mine k 1 i o x y) {b : Nat} (hb : mget k.pl 1 = some b) :
  Calls Tryz.prog 38 #[.pointer (some ⟨a.kb, 0, none⟩), .int .i64 1] w (fun e w' => SignalOneTo W a k b e w') := by
 have HW := hid (who_yes h hok hm.own hm.ko)
 obtain ⟨W0, I0, e1, e2, w9, i9⟩ := hok.kin.bits _ (mem_of_mget hb)
 simp only at e1 e2
 have e0 : waitF k.pf b W0 = k.pf := updPr_self _ _ _ (by rw [← e1])
 have HS0 := hid (show W0 < 512 ∧ KIs W w a { k with pf := waitF k.pf b W0 } ∧ KOk { k with pf := waitF k.pf b W0 } from by rw [e0]; exact ⟨w9, ⟨C, h⟩, hok⟩)
 have HM := hid hm
 have HB := hid hb
 clear h hok hm hb e1 e2 w9 i9 e0
 go_enter Tryz.func38, Tryz.ntmps38
 go_wp2_with fail
 refine HW.out.mono ?_
 rintro e w1 ⟨rfl, hw⟩; subst w1
 go_wp2_with fail
 go_loopg [8] (W0) (fun gl v wr => ∃ g : Nat, g = gl ∧ Hid (g < 512 ∧ KIs W wr a { k with pf := waitF k.pf b g } ∧ KOk { k with pf := waitF k.pf b g }))
 case atStart => exact ⟨W0, rfl, HS0⟩
 case round =>
  obtain ⟨g, hg, hS⟩ := hrel
  obtain ⟨h9, ⟨C1, h1⟩, hok1⟩ := hS.out
  clear hS
  have HT := hid (ktake_is h1 hok1 (pid := 1) ((hok1.run 1).2 (by rw [show mget k.ow 1 = some i from HM.out.own]; rfl)))
  have c3 := h1.c3
  clear h1 hok1 h9
  go_wp2_with fail
  refine HT.out.mono ?_
  rintro e w2 ⟨r, pf', rfl, htk, hk2, hok2, hq2⟩
  obtain ⟨hW9, hls, rfl⟩ := took_wait HB.out htk
  by_cases hr : r = 0
  ·subst hr
   rw [if_pos rfl] at hk2 hok2
   have HX := hid (show g < 512 ∧ (∀ i, 1 ≤ i → i ≤ 8 → g.testBit i = false) ∧ KIs W w2 a { k with pf := waitF k.pf b g } ∧ KOk { k with pf := waitF k.pf b g } from ⟨hW9, by rcases hls with ⟨h1, _⟩ | ⟨_, h2⟩; exact absurd h1 (by omega); exact h2, hk2, hok2⟩)
   clear htk hk2 hok2 hq2 hls c3
   go_wp2_with fail
   go_returns
   exact ⟨rfl, g, HX.out⟩
  ·rw [if_neg hr] at hk2 hok2
   have hls : 1 ≤ r ∧ r ≤ 8 ∧ g.testBit r = true := by
    rcases hls with ⟨h1, h2, h3, _⟩ | ⟨h0, _⟩
    ·exact ⟨h1, h2, h3⟩
    ·exact absurd h0 hr
   have hoff := off_less ⟨g, hW9⟩ ⟨r, by omega⟩ hls.2.2
   simp only at hoff
   have HX := hid (show offR g r < 512 ∧ KIs W w2 a { k with pf := waitF k.pf b (offR g r) } ∧ KOk { k with pf := waitF k.pf b (offR g r) } from ⟨offR_lt hW9 hls.2.1, hk2, hok2⟩)
   have HOff := hid hoff
   have hbe : ((r : Int) == 0) = false := by
    rw [beq_eq_false_iff_ne]; omega
   clear htk hk2 hok2 hq2 hls hoff hr c3
   go_wp2_with fail
   go_roundg (offR g r)
   case measure => have := HOff.out; omega
   case rel => exact ⟨_, rfl, HX⟩
end
end Go.Proofs.YtamleilijmgoeaaGreatDoor
namespace Go.Proofs.YtamleilijmgoeaaGreatDoor
open Go.RowKit
set_option linter.unusedVariables false
section
variable {W w w' w1 : World} {a : KA} {k : KS} {C C' : Nat → Nat × Nat} {pid : Int} {i j : Nat} {o o' : KO} {x : Spc} {y : Nat × PTab} {pl : List (Int × Nat)} {pf pf' : Nat → Pr} {r : Nat} {f : Nat → Pr} {l : List (Int × Nat)} {u m : Nat → Int}
theorem kdok_fork (L : PTab) : ∀ (f i : Nat) (S : PS), DOk S → (∀ k e, mget S.es k = some e → e.refs + f ≤ 1000000) → DOk (forkFrom L f i S)
  | 0, _, S, h, _ => h
  | f + 1, i, S, h, hb => by
    show DOk (forkFrom L f (i + 1) (if 0 < (L i).1 then bumpS S ((L i).1 - 1) else S))
    by_cases hz : 0 < (L i).1
    · rw [if_pos hz]
      unfold bumpS
      cases he : mget S.es ((L i).1 - 1) with
      | none => exact kdok_fork L f (i + 1) S h (fun k e he => by have := hb k e he; omega)
      | some e =>
        have hE := (h.ent _ e he).1
        have hbe := hb _ e he
        have h2 : DOk (putS S ((L i).1 - 1) { e with refs := e.refs + 1 }) := h.put he rfl rfl rfl rfl ⟨by show 1 ≤ e.refs + 1; omega, by show e.refs + 1 ≤ 1000000; omega, hE.2.2⟩
        exact kdok_fork L f (i + 1) (putS S ((L i).1 - 1) { e with refs := e.refs + 1 }) h2 (fun k g hg => by
          have hg : mget (mput S.es _ _) k = some g := hg
          rw [mget_mput] at hg
          split at hg
          · cases hg
            show e.refs + 1 + f ≤ 1000000
            omega
          · have := hb k g hg; omega)
    · rw [if_neg hz]
      exact kdok_fork L f (i + 1) S h (fun k e he => by have := hb k e he; omega)
theorem stR_fork {c : Int} {nb : Nat} {p : Pr} (hn : mget l c = none) (hc : ∀ t ∈ l, t.2 ≠ nb) (hp : p.state = 1) (q : Int) : stR (l ++ [(c, nb)]) (updPr f nb p) q = if q = c then 1 else stR l f q := by
  have e2 : stR l (updPr f nb p) q = stR l f q := stR_congr (fun t ht => by rw [updPr_other _ _ (hc t ht)]) q
  by_cases e : q = c
  · subst e
    rw [if_pos rfl]
    unfold stR
    rw [mget_snoc hn, if_pos rfl]
    show (updPr f nb p nb).state = 1
    rw [updPr_same]; exact hp
  · rw [if_neg e, ← e2]
    unfold stR
    rw [mget_snoc hn, if_neg e]
structure ForkNew where
  c : Int
  nb : Nat
  sp : Nat
  pm : Nat
  ub : Nat
  ob : Nat
  lb : Nat
  rl : List (Int × Nat)
def forkK (k : KS) (pid : Int) (o : KO) (x : Spc) (y : Nat × PTab) (b : Nat) (z : ForkNew) : KS :=
  { t := { k.t with rl := z.rl }, l := k.l ++ [⟨z.sp, z.pm, x.P⟩], S := forkS k.S y.2, ts := k.ts ++ [(z.ub, y.2)], os := k.os ++ [⟨z.ob, z.lb, o.u, o.m, o.adj⟩], ow := k.ow ++ [(z.c, k.os.length)], pl := k.pl ++ [(z.c, z.nb)], pf := updPr k.pf z.nb ⟨pid, 1, 0, 0, (k.pf b).ignores⟩ }
def ForkC (k : KS) (c : Int) : Prop := 1 ≤ c ∧ c ≤ 24 ∧ mget k.pl c = none ∧ ∀ i : Int, 1 ≤ i → i < c → (mget k.pl i).isSome = true
theorem get_snoc {α : Type} {l : List α} {v z : α} {j : Nat} (h : (l ++ [v])[j]? = some z) : l[j]? = some z ∨ (j = l.length ∧ z = v) := by
  by_cases e : j < l.length
  · rw [List.getElem?_append_left e] at h; exact .inl h
  · rw [List.getElem?_append_right (by omega)] at h
    have e2 := (List.getElem?_eq_some_iff.1 h).1
    simp at e2
    have e3 : j = l.length := by omega
    subst e3
    simp at h
    exact .inr ⟨rfl, h.symm⟩
theorem KOk.no_own (h : KOk k) {c : Int} (hn : mget k.pl c = none) : mget k.ow c = none := by
  cases hc : mget k.ow c with
  | none => rfl
  | some i =>
    have h1 := (h.run c).2 (by rw [hc]; rfl)
    unfold RunsIn stR at h1
    rw [hn] at h1
    cases h1
theorem KOk.forked (h : KOk k) (hm : Mine k pid i o x y) {b : Nat} (hb : mget k.pl pid = some b) {z : ForkNew} (hc : ForkC k z.c) (hnb : ∀ t ∈ k.pl, t.2 ≠ z.nb) (hl : k.pl.length < 24) (hlen : k.os.length < 100) : KOk (forkK k pid o x y b z) := by
  have hr : RunsIn k.pl k.pf pid := (h.run pid).2 (by rw [hm.own]; rfl)
  have hno := h.no_own hc.2.2.1
  have hown : ∀ q, mget (k.ow ++ [(z.c, k.os.length)]) q = if q = z.c then some k.os.length else mget k.ow q := mget_snoc hno
  obtain ⟨l1, l2, l3⟩ := h.len
  have hbnd := h.joint.bound h.dok (by omega)
  have hO : ∀ j, j ≠ k.os.length → ((∃ q, mget (k.ow ++ [(z.c, k.os.length)]) q = some j) ↔ Owned k j) := fun j hj => by
    constructor
    · rintro ⟨q, hq⟩
      rw [hown] at hq
      by_cases e : q = z.c
      · rw [if_pos e] at hq; exact absurd (Option.some.inj hq).symm hj
      · rw [if_neg e] at hq; exact ⟨q, hq⟩
    · rintro ⟨q, hq⟩
      refine ⟨q, ?_⟩
      rw [hown, if_neg (fun e => ?_)]
      · exact hq
      · rw [e, hno] at hq; cases hq
  refine ⟨h.kin.fork hr hb hc.1 hc.2.1 hc.2.2.1 hl hnb, kdok_fork y.2 8 0 k.S h.dok (fun m e he => by have := hbnd m e he; omega), joint_fork h.joint (tab := y.1) (by rw [hm.tab]) z.ub, ⟨by unfold forkK; simp only [List.length_append, List.length_singleton]; omega, by unfold forkK; simp only [List.length_append, List.length_singleton]; omega, by unfold forkK; simp only [List.length_append, List.length_singleton]; omega⟩, fun q => ?_, ?_, fun p q j hp hq => ?_, fun j v z' u hv hz hu ho => ?_, fun j v hv => ?_, fun j v u hv hu ho => ?_, fun q j hq => ?_⟩
  · unfold RunsIn
    show stR (k.pl ++ [(z.c, z.nb)]) (updPr k.pf z.nb _) q = 1 ↔ (mget (k.ow ++ [(z.c, k.os.length)]) q).isSome = true
    rw [stR_fork hc.2.2.1 hnb rfl, hown]
    by_cases e : q = z.c
    · rw [if_pos e, if_pos e]; simp
    · rw [if_neg e, if_neg e]; exact h.run q
  · show MNodup (k.ow ++ [(z.c, k.os.length)])
    rw [← mput_new hno]; exact mput_nodup h.nd _ _
  · have hp' : mget (k.ow ++ [(z.c, k.os.length)]) p = some j := hp
    have hq' : mget (k.ow ++ [(z.c, k.os.length)]) q = some j := hq
    rw [hown] at hp' hq'
    by_cases e1 : p = z.c
    · by_cases e2 : q = z.c
      · rw [e1, e2]
      · rw [if_pos e1] at hp'; rw [if_neg e2] at hq'
        have h1 := h.lt q j hq'
        have := Option.some.inj hp'
        omega
    · by_cases e2 : q = z.c
      · rw [if_neg e1] at hp'; rw [if_pos e2] at hq'
        have h1 := h.lt p j hp'
        have := Option.some.inj hq'
        omega
      · rw [if_neg e1] at hp'; rw [if_neg e2] at hq'
        exact h.inj p q j hp' hq'
  · rcases get_snoc hv with hv | ⟨rfl, rfl⟩
    · have hj := (List.getElem?_eq_some_iff.1 hv).1
      have hne : j ≠ k.os.length := by omega
      rcases get_snoc hz with hz | ⟨e, _⟩
      · rcases get_snoc hu with hu | ⟨e, _⟩
        · exact h.live j v z' u hv hz hu ((hO j hne).1 ho)
        · omega
      · omega
    · rcases get_snoc hz with hz | ⟨_, rfl⟩
      · have := (List.getElem?_eq_some_iff.1 hz).1; omega
      · rcases get_snoc hu with hu | ⟨_, rfl⟩
        · have := (List.getElem?_eq_some_iff.1 hu).1; omega
        · exact h.live i o x y hm.ko hm.sp hm.tab ⟨pid, hm.own⟩
  · rcases get_snoc hv with hv | ⟨rfl, rfl⟩
    · exact h.fit j v hv
    · exact h.fit i o hm.ko
  · have hne : j ≠ k.os.length := fun e => ho ⟨z.c, by show mget (k.ow ++ [(z.c, k.os.length)]) z.c = some j; rw [hown, if_pos rfl, e]⟩
    rcases get_snoc hv with hv | ⟨e, _⟩
    · rcases get_snoc hu with hu | ⟨e, _⟩
      · exact h.dead j v u hv hu (fun h1 => ho ((hO j hne).2 h1))
      · omega
    · omega
  · have hq' : mget (k.ow ++ [(z.c, k.os.length)]) q = some j := hq
    rw [hown] at hq'
    unfold forkK
    simp only [List.length_append, List.length_singleton]
    split at hq'
    · have := Option.some.inj hq'; omega
    · have := h.lt q j hq'; omega
theorem keysK_new {os : List KO} {ow : List (Int × Nat)} (h : ∀ t ∈ ow, ∃ o, os[t.2]? = some o) (p : KO) {c : Int} (hn : mget ow c = none) : keysK (os ++ [p]) (ow ++ [(c, os.length)]) = mput (keysK os ow) c p.ob := by
  have e : mget (keysK os ow) c = none := by rw [mget_keysK, hn]; rfl
  rw [mput_new e]
  have h1 := keysK_more h p
  unfold keysK at h1 ⊢
  rw [List.map_append, h1]
  have h2 : obOf (os ++ [p]) os.length = p.ob := by unfold obOf; rw [List.getElem?_append_right (Nat.le_refl _)]; simp
  simp [h2]
/-! ### the walk -/
def ForkTo (W : World) (a : KA) (k : KS) (pid : Int) (o : KO) (x : Spc) (y : Nat × PTab) (e : Ending) (w' : World) : Prop :=
  (24 ≤ k.pl.length ∧ e = .returned (.tuple #[.int .i64 0, .iface 36 (.int .i64 12)]) ∧ KIs W w' a k) ∨
  (k.pl.length < 24 ∧ ∃ (b : Nat) (z : ForkNew), mget k.pl pid = some b ∧ ForkC k z.c ∧ (∀ t ∈ k.pl, t.2 ≠ z.nb) ∧ e = .returned (.tuple #[.int .i64 z.c, .nilIface]) ∧ KIs W w' a (forkK k pid o x y b z) ∧ KOk (forkK k pid o x y b z))
set_option maxRecDepth 100000 in
theorem kfork_full (h : KIn W w a k C) (hok : KOk k) (hm : Mine k pid i o x y) (hl : 24 ≤ k.pl.length) :
    Calls Tryz.prog 14 #[.pointer (some ⟨a.kb, 0, none⟩), .int .i64 pid] w (ForkTo W a k pid o x y) := by
  have HW := hid (who_yes h hok hm.own hm.ko)
  have HP := hid (fork_full h.pr pid ((hok.run pid).2 (by rw [hm.own]; rfl)) hl)
  have c3 := h.c3
  have H := hid h
  have HL := hid hl
  clear h hok hm hl
  unfold ForkTo
  go_enter Tryz.func14, Tryz.ntmps14
  go_wp2_with fail
  refine HW.out.mono ?_
  rintro e w1 ⟨rfl, hw⟩; subst w1
  go_wp2_with fail
  refine HP.out.mono ?_
  rintro e w2 ⟨rfl, rfl⟩
  go_wp2_with fail
  go_returns
  exact .inl ⟨HL.out, rfl, C, H.out⟩
theorem KIn.lcells (h : LedgerIs w r u m) : w.cell? ⟨r, 0, none⟩ = some (.int .i64 (u 0)) ∧ w.cell? ⟨r, 1, none⟩ = some (.int .i64 (u 1)) ∧ w.cell? ⟨r, 2, none⟩ = some (.int .i64 (u 2)) ∧ w.cell? ⟨r, 3, none⟩ = some (.int .i64 (m 0)) ∧ w.cell? ⟨r, 4, none⟩ = some (.int .i64 (m 1)) ∧ w.cell? ⟨r, 5, none⟩ = some (.int .i64 (m 2)) :=
  ⟨h.cu 0 (by decide), h.cu 1 (by decide), h.cu 2 (by decide), h.cm 0 (by decide), h.cm 1 (by decide), h.cm 2 (by decide)⟩
theorem ledger_copy (w : World) (u m : Nat → Int) (t : TypeId) : LedgerIs (w.alloc (.cells #[.int .i64 (u 0), .int .i64 (u 1), .int .i64 (u 2), .int .i64 (m 0), .int .i64 (m 1), .int .i64 (m 2)] t)) w.heap.size u m := by
  refine ⟨fun j hj => ?_, fun j hj => ?_, fun j => by simp⟩ <;> (match j with
    | 0 => simp
    | 1 => simp
    | 2 => simp
    | j + 3 => exact absurd hj (by omega))
set_option maxHeartbeats 4000000 in
set_option maxRecDepth 100000 in
theorem kfork_runs (h : KIn W w a k C) (hok : KOk k) (hm : Mine k pid i o x y) (hl : k.pl.length < 24) (hlen : k.os.length < 100) :
    Calls Tryz.prog 14 #[.pointer (some ⟨a.kb, 0, none⟩), .int .i64 pid] w (ForkTo W a k pid o x y) := by
  have HW := hid (who_yes h hok hm.own hm.ko)
  have hr : RunsIn k.pl k.pf pid := (hok.run pid).2 (by rw [hm.own]; rfl)
  obtain ⟨b, hb⟩ := runs_block hr
  have HP := hid (fork_runs h.pr pid b hr hb hl)
  unfold Forked at HP
  have c3 := h.c3
  have H := hid h
  have HOk := hid hok
  have HM := hid hm
  have HB := hid hb
  have HL := hid hl
  have HLen := hid hlen
  clear h hok hm hl hlen hr hb
  unfold ForkTo
  go_enter Tryz.func14, Tryz.ntmps14
  go_wp2_with fail
  refine HW.out.mono ?_
  rintro e w1 ⟨rfl, hw⟩; subst w1
  go_wp2_with fail
  refine HP.out.mono ?_
  rintro e w2 ⟨c, nb, c1, c24, hn, hls, rfl, hnb, hT, t2⟩
  have hnb2 : ∀ t ∈ k.pl, t.2 ≠ nb := fun t ht e => by have := (H.out.pr.pr t ht).lt; omega
  obtain ⟨C2, hK2, o2⟩ : ∃ C2, KIn W w2 a { k with pl := k.pl ++ [((c : Int), nb)], pf := updPr k.pf nb ⟨pid, 1, 0, 0, (k.pf b).ignores⟩ } C2 ∧ Own7 C C2 w w2 := ⟨_, H.out.prStepC hT (t2.mono (fun _ _ e => .inr (.inl e))) (fun j hj => by
    rcases hj with e | e | hj
    · exact .inl (.inl e)
    · exact .inl (.inr (.inl e))
    · rw [List.map_append, List.mem_append] at hj
      rcases hj with hj | hj
      · exact .inl (.inr (.inr hj))
      · simp at hj; exact .inr (by omega))⟩
  have HC := hid (show ForkC k c from ⟨by omega, by omega, hn, hls⟩)
  have HNb := hid hnb2
  obtain ⟨hO, hL⟩ := hK2.at_ (pid := pid) (i := i) (o := o) (x := x) (y := y) ⟨HM.out.own, HM.out.ko, HM.out.sp, HM.out.tab⟩
  obtain ⟨l0, l1, l2, l3, l4, l5⟩ := KIn.lcells hL
  have q2 := hO.c2
  have HK2 := hid hK2
  have HO2 := hid hO
  clear hT t2 hn hls hnb hnb2 o2 hK2 hO hL c3 c1 c24
  go_wp2_with fail
  have hL3 := ledger_copy w2 o.u o.m 104
  have t3 : Turn (fun _ => False) w2 (w2.alloc (.cells #[.int .i64 (o.u 0), .int .i64 (o.u 1), .int .i64 (o.u 2), .int .i64 (o.m 0), .int .i64 (o.m 1), .int .i64 (o.m 2)] 104)) := (Turn.refl _ _).alloc _
  have hsz : (w2.alloc (.cells #[.int .i64 (o.u 0), .int .i64 (o.u 1), .int .i64 (o.u 2), .int .i64 (o.m 0), .int .i64 (o.m 1), .int .i64 (o.m 2)] 104)).heap.size = w2.heap.size + 1 := World.size_alloc _ _
  generalize hw3 : w2.alloc (.cells #[.int .i64 (o.u 0), .int .i64 (o.u 1), .int .i64 (o.u 2), .int .i64 (o.m 0), .int .i64 (o.m 1), .int .i64 (o.m 2)] 104) = w3 at hL3 t3 hsz ⊢
  clear hw3
  obtain ⟨lb, hlb⟩ : ∃ lb, w2.heap.size = lb := ⟨_, rfl⟩
  have hK3 := HK2.out.marked t3 (fun j => j = lb) (fun j hj => ⟨by omega, by omega⟩)
  rw [hlb] at hL3 ⊢
  obtain ⟨C3, hC3⟩ : ∃ C3, C3 = markF C2 (fun j => j = lb) (7, 0) := ⟨_, rfl⟩
  rw [← hC3] at hK3
  have hC3b : C3 lb = (7, 0) := by rw [hC3]; exact markF_in rfl
  have hm3 : Mine { k with pl := k.pl ++ [((c : Int), nb)], pf := updPr k.pf nb ⟨pid, 1, 0, 0, (k.pf b).ignores⟩ } pid i o x y := ⟨HM.out.own, HM.out.ko, HM.out.sp, HM.out.tab⟩
  have hK3d := hK3.drewS
  have hL3d := hL3.turned ((Turn.refl (fun _ => False) w3).drew) id
  have hO3 := (hK3d.at_ hm3).1
  have k0 := hO3.c0
  have k1 := hO3.c1
  have k3 := hO3.c3
  have k4 := hK3d.c4
  have k2 := hK3d.c2
  have hone := hK3d.vm.at hm3.sp
  have hvf := vmFork_is hone.store hone.space hone.off (fun f hf => by have := hone.refs f hf; omega) (R_small hK3d.vm (by have := HOk.out.len; show k.l.length ≤ 100; omega))
  unfold ForkIs at hvf
  have HVf := hid hvf
  have HK3 := hid hK3d
  have HL3 := hid hL3d
  have HC3 := hid hC3b
  have HM3 := hid hm3
  clear hL3 t3 hsz hK3 hC3 hC3b hm3 hK3d hL3d hO3 hone hvf l0 l1 l2 l3 l4 l5 q2 HK2 HO2 hlb
  go_region_held3 (fun w' => w'.cell? ⟨o.ob, 0, none⟩ = some (.pointer (some ⟨x.sp, 0, none⟩)) ∧ w'.cell? ⟨o.ob, 1, none⟩ = some (.pointer (some ⟨y.1, 0, none⟩)) ∧ w'.cell? ⟨o.ob, 3, none⟩ = some (.int .i64 o.adj) ∧ w'.cell? ⟨a.kb, 4, none⟩ = some (.map (some a.om)) ∧ w'.cell? ⟨a.kb, 2, none⟩ = some (.pointer (some ⟨a.fb, 0, none⟩)))
    (first | exact ⟨k0, k1, k3, k4, k2⟩ | exact ⟨k04, k14, k34, k44, k24⟩ | exact ⟨k05, k15, k35, k45, k25⟩ | exact ⟨k07, k17, k37, k47, k27⟩ | go_keep)
    (first
      | (go_at_call 57; refine HVf.out.mono ?_; rintro e w4 ⟨sp2, pm2, rl, rfl, hS4, hA4, hR4, h41, h42⟩
         have hAA := HK3.out.vm.forked HM3.out.sp hS4 hA4 hR4 h41 h42
         obtain ⟨C4, hK4, o4⟩ : ∃ C4, KIn W w4 a { k with pl := k.pl ++ [((c : Int), nb)], pf := updPr k.pf nb ⟨pid, 1, 0, 0, (k.pf b).ignores⟩, t := { k.t with rl := rl }, l := k.l ++ [⟨sp2, pm2, x.P⟩] } C4 ∧ Own7 C3 C4 w3.drew w4 := ⟨_, HK3.out.vmStepC hAA (fun j z hz => ⟨z, by rw [List.getElem?_append_left (List.getElem?_eq_some_iff.1 hz).1]; exact hz, rfl⟩)⟩
         have HL4 := hid (HL3.out.turned o4.2 (fun e => e HC3.out))
         have HC4 := hid (o4.1 _ HC3.out)
         have hm4 : Mine { k with pl := k.pl ++ [((c : Int), nb)], pf := updPr k.pf nb ⟨pid, 1, 0, 0, (k.pf b).ignores⟩, t := { k.t with rl := rl }, l := k.l ++ [⟨sp2, pm2, x.P⟩] } pid i o x y := ⟨HM.out.own, HM.out.ko, by show (k.l ++ _)[i]? = some x; rw [List.getElem?_append_left (List.getElem?_eq_some_iff.1 HM.out.sp).1]; exact HM.out.sp, HM.out.tab⟩
         have HM4 := hid hm4
         have hO4 := (hK4.at_ hm4).1
         have k04 := hO4.c0
         have k14 := hO4.c1
         have k34 := hO4.c3
         have k44 := hK4.c4
         have k24 := hK4.c2
         have HFf := hid (law_fork hK4.desc HM.out.tab (HOk.out.there HM.out) (HOk.out.joint.bound HOk.out.dok (by have := HOk.out.len; omega)))
         have HK4 := hid hK4
         clear hS4 hA4 hR4 h41 h42 hAA o4 hm4 hO4 hK4)
      | (go_at_call 58; refine HFf.out.mono ?_; rintro e w5 ⟨ub, rfl, hd5⟩
         have hK5 := HK4.out.descStepC hd5 (fun j z hz => ⟨z, by rw [List.getElem?_append_left (List.getElem?_eq_some_iff.1 hz).1]; exact hz, rfl⟩)
         have hL5 := HL4.out.turned (own7_desc hd5).2 (fun e => e HC4.out)
         have hO5 := (hK5.at_ (pid := pid) (i := i) (o := o) (x := x) (y := y) ⟨HM.out.own, HM.out.ko, HM4.out.sp, by show (k.ts ++ _)[i]? = some y; rw [List.getElem?_append_left (List.getElem?_eq_some_iff.1 HM.out.tab).1]; exact HM.out.tab⟩).1
         have k05 := hO5.c0
         have k15 := hO5.c1
         have k35 := hO5.c3
         have k45 := hK5.c4
         have k25 := hK5.c2
         have t6 : Turn (fun _ => False) w5 (w5.alloc (.cells #[.pointer (some ⟨sp2, 0, none⟩), .pointer (some ⟨ub, 0, none⟩), .pointer (some ⟨lb, 0, none⟩), .int .i64 o.adj] 115)) := (Turn.refl _ _).alloc _
         have hO6 : OwnAt (w5.alloc (.cells #[.pointer (some ⟨sp2, 0, none⟩), .pointer (some ⟨ub, 0, none⟩), .pointer (some ⟨lb, 0, none⟩), .int .i64 o.adj] 115)) w5.heap.size sp2 ub lb o.adj := ⟨by simp, by simp, by simp, by simp, fun q => by simp⟩
         obtain ⟨hl1, hl2, hl3⟩ := HOk.out.len
         obtain ⟨C6, hK6⟩ := hK5.more7 (x := ⟨sp2, pm2, x.P⟩) (y := (ub, y.2)) (p := ⟨w5.heap.size, lb, o.u, o.m, o.adj⟩) (by show (k.l ++ [⟨sp2, pm2, x.P⟩])[k.os.length]? = _; rw [← hl1]; simp) (by show (k.ts ++ [(ub, y.2)])[k.os.length]? = _; rw [← hl2]; simp) t6 ⟨Nat.le_refl _, by simp⟩ HC4.out hO6 (hL5.turned t6 id)
         obtain ⟨w7, hrun, hm7, t7⟩ := hK6.mp.run_update (P := Tryz.prog) keyI Tryz.underlying116 Tryz.underlying3 (c : Int) w5.heap.size
         have hrn : (Instr.mapUpdate 116 (.map (some a.om)) (.int .i64 (c : Int)) (.pointer (some ⟨w5.heap.size, 0, none⟩))).run Tryz.prog (w5.alloc (.cells #[.pointer (some ⟨sp2, 0, none⟩), .pointer (some ⟨ub, 0, none⟩), .pointer (some ⟨lb, 0, none⟩), .int .i64 o.adj] 115)) = .ok () w7 := hrun
         have hno := HOk.out.no_own HC.out.2.2.1
         have hm8 : MapIs w7 a.om (.int .i64) encI ptr (keysK (k.os ++ [⟨w5.heap.size, lb, o.u, o.m, o.adj⟩]) (k.ow ++ [((c : Int), k.os.length)])) := by
           rw [keysK_new hK5.has _ hno]
           rw [show keysK (k.os ++ [⟨w5.heap.size, lb, o.u, o.m, o.adj⟩]) k.ow = keysK k.os k.ow from keysK_more hK5.has _] at hm7
           exact hm7
         have hK7 := hK6.owns (ow' := k.ow ++ [((c : Int), k.os.length)]) hm8 (fun t ht => by
           rcases List.mem_append.1 ht with ht | ht
           · exact hK6.has t ht
           · rw [List.mem_singleton.1 ht]
             exact ⟨⟨w5.heap.size, lb, o.u, o.m, o.adj⟩, by show (k.os ++ [_])[k.os.length]? = _; simp⟩) t7
         have HK7 := hid (show KIs W w7 a (forkK k pid o x y b ⟨c, nb, sp2, pm2, ub, w5.heap.size, lb, rl⟩) from hK7)
         obtain ⟨C7, hI7⟩ := hK7
         have hne : pid ≠ (c : Int) := fun e => by rw [← e, HM.out.own] at hno; cases hno
         have hO7 := (hI7.at_ (pid := pid) (i := i) (o := o) (x := x) (y := y) ⟨by show mget (k.ow ++ [((c : Int), k.os.length)]) pid = some i; rw [mget_snoc hno, if_neg hne]; exact HM.out.own, by show (k.os ++ _)[i]? = some o; rw [List.getElem?_append_left (List.getElem?_eq_some_iff.1 HM.out.ko).1]; exact HM.out.ko, HM4.out.sp, by show (k.ts ++ _)[i]? = some y; rw [List.getElem?_append_left (List.getElem?_eq_some_iff.1 HM.out.tab).1]; exact HM.out.tab⟩).1
         have k07 := hO7.c0
         have k17 := hO7.c1
         have k37 := hO7.c3
         have k47 := hI7.c4
         have k27 := hI7.c2
         clear hrun hd5 hK5 hL5 hO5 t6 hO6 hl1 hl2 hl3 hK6 hm7 t7 hno hm8 hne hI7 hO7))
  all_goals go_wp2_with fail
  all_goals go_returns
  all_goals exact .inr ⟨HL.out, b, ⟨c, nb, sp2, pm2, ub, w5.heap.size, lb, rl⟩, HB.out, HC.out, HNb.out, rfl, HK7.out, HOk.out.forked HM.out HB.out HC.out HNb.out HL.out HLen.out⟩
theorem kfork_yes (h : KIn W w a k C) (hok : KOk k) (hm : Mine k pid i o x y) (hlen : k.os.length < 100) :
    Calls Tryz.prog 14 #[.pointer (some ⟨a.kb, 0, none⟩), .int .i64 pid] w (ForkTo W a k pid o x y) := by
  by_cases hl : k.pl.length < 24
  · exact kfork_runs h hok hm hl hlen
  · exact kfork_full h hok hm (by omega)
end
end Go.Proofs.YtamleilijmgoeaaGreatDoor
