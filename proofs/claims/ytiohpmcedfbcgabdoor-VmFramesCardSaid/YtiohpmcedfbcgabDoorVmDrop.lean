/- Package vm: drop: a frame has a page less. Conditions: each theorem's own premises. -/
import Derived.Test.YtiohpmcedfbcgabDoorVmMap
import Derived.Test.YtiohpmcedfbcgabDoorBuddyGive
namespace Go.Proofs.YtiohpmcedfbcgabDoor
open Go.RowKit
set_option linter.unusedVariables false

section
variable {w w' : World} {s : SB} {n : Nat} {t t' : St}
theorem zeroRc (w : World) : (zeroValue 3).run Tryd.prog w = .ok (.int .i64 0) w := by kernel_rfl
theorem look_rc {rm : Nat} {rl : List (Int × Nat)} (h : MapIs w rm (.int .i64) encI encRc rl) (f : Int) : (Instr.lookup 33 (.map (some rm)) (.int .i64 f) false).run Tryd.prog w = .ok (.int .i64 (((mget rl f).getD 0 : Nat) : Int)) w := by
  have h1 := h.run_lookup keyI Tryd.underlying33 Tryd.underlying3 (zeroRc w) f false
  refine h1.trans ?_
  cases mget rl f <;> rfl
def Dropped (s : SB) (n : Nat) (t : St) (f : Int) (w : World) (e : Ending) (w' : World) : Prop :=
  e = .returned (.tuple #[]) ∧ ∃ t', StAfter s n t w w' t' ∧ t'.m = t.m ∧ t'.R = fun g => if g = f then t.R f - 1 else t.R g
set_option maxHeartbeats 1000000 in
set_option maxRecDepth 100000 in
theorem drop_is (h : StoreIs w s n t) (f : Int) (hf : 0 < t.R f) : Calls Tryd.prog 166 #[.pointer (some ⟨s.sb, 0, none⟩), .int .i64 f] w (Dropped s n t f w) := by
  obtain ⟨j, hj⟩ : ∃ j, mget t.rl f = some (j + 1) := by
    unfold St.R at hf
    cases hm : mget t.rl f with
    | none => rw [hm] at hf; exact absurd hf (Nat.lt_irrefl _)
    | some k => rw [hm] at hf; exact ⟨k - 1, by rw [show k - 1 + 1 = k by have : 0 < k := hf; omega]⟩
  have hR : t.R f = j + 1 := by unfold St.R; rw [hj]; rfl
  have hjb := (h.pos f _ hj).2
  have c1 := h.c1
  have c2 := h.c2
  have lk := look_rc h.refs f
  rw [hj] at lk
  simp only [Option.getD_some] at lk
  have H := hid h
  have HJ := hid hj
  have HR := hid hR
  have HRf := hid h.refs
  have n1 := h.ne.1
  have hw1 : IntKind.i64.wrap (((j + 1 : Nat) : Int) - 1) = (j : Int) := by rw [IntWalk.i64_in _ (by omega)]; omega
  have hw2 : ((j + 1 : Nat) : Int) - 1 = (j : Int) := by omega
  clear h hj hR hf
  have HM0 : Hid (mget t.tk f = some 0) := hid (by rw [H.out.same f, HJ.out]; rfl)
  by_cases h0 : j = 0
  · subst h0
    go_enter Tryd.func166, Tryd.ntmps166
    go_wp2_with (first | (at_mapUpdate; refine wpList_mapput rfl _ _ _ 33 3 3 rfl Tryd.underlying33 Tryd.underlying3 keyI s.rm rfl HRf.out f rfl 0 (by first | rfl | go_num) ?_; intro w4 hm4 t4; have HM4 := hid hm4; have HT4 := hid t4; have c22 := (t4.cell (a := ⟨s.sb, 2, none⟩) (lt_of_cell c2) n1).trans c2; have c12 := (t4.cell (a := ⟨s.sb, 1, none⟩) (lt_of_cell c1) n1).trans c1; have lk2 := look_rc hm4 f; rw [mget_mput, if_pos rfl] at lk2; simp only [Option.getD_some] at lk2; clear hm4 t4 c1 c2 lk) | (at_delete; refine wpList_mapdel rfl _ _ 33 3 3 rfl Tryd.underlying33 Tryd.underlying3 keyI s.rm rfl HM4.out f rfl ?_; intro w5 hm5 t5; have HM5 := hid hm5; have HT5 := hid (HT4.out.trans t5); have c13 := (t5.cell (a := ⟨s.sb, 1, none⟩) (lt_of_cell c12) n1).trans c12; clear hm5 t5 c12 c22 lk2))
    have HP5 := H.out.pool.turned HT5.out (fun k hk e => (H.out.ap k hk).2.1 e)
    have HGv := hid (give_ok HP5 f 0 HM0.out H.out.good (by have := H.out.hn; simp only; omega))
    clear HP5
    refine HGv.out.mono ?_
    rintro e w6 ⟨rfl, fr2, hg2, vs2, hp2, t2, g2⟩
    have HG2 := hid hg2
    have HP2 := hid hp2
    have HT2 := hid t2
    have Hg2 := hid g2
    clear hg2 hp2 t2 g2 c13 HGv
    go_wp2_with fail
    go_end0
    exact ⟨rfl, _, H.out.gone HT5.out HM5.out HP2.out HG2.out HT2.out Hg2.out, rfl, by rw [R_del, HR.out]⟩
  · have hb0 : ((j : Int) == 0) = false := by simp; omega
    go_enter Tryd.func166, Tryd.ntmps166
    go_wp2_with (at_mapUpdate; refine wpList_mapput rfl _ _ _ 33 3 3 rfl Tryd.underlying33 Tryd.underlying3 keyI s.rm rfl HRf.out f rfl j (by first | rfl | go_num) ?_; intro w4 hm4 t4; have HM4 := hid hm4; have HT4 := hid t4; have c22 := (t4.cell (a := ⟨s.sb, 2, none⟩) (lt_of_cell c2) n1).trans c2; have lk2 := look_rc hm4 f; rw [mget_mput, if_pos rfl] at lk2; simp only [Option.getD_some] at lk2; clear hm4 t4 c1 c2 lk)
    go_end0
    exact ⟨rfl, _, H.out.recount (by rw [HJ.out]; rfl) ⟨by omega, by omega⟩ HT4.out HM4.out, rfl, by rw [R_put, HR.out]; rfl⟩
end
end Go.Proofs.YtiohpmcedfbcgabDoor
