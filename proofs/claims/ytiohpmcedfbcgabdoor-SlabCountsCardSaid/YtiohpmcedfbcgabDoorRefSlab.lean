/- The document's Cache: what it is in memory; has, Give. Conditions: each theorem's own premises. -/
import Derived.Test.YtiohpmcedfbcgabDoorSlabThings
import Derived.Test.YtiohpmcedfbcgabDoorRefPool
import Derived.Deep.QuietTactic
import Derived.BigQuiet
namespace Go.Proofs.YtiohpmcedfbcgabDoor
open Go.RowKit
set_option linter.unusedVariables false

def one (_ : Unit) : Value := .int .i64 1
/-- The document's cache lies at dc: its pool's pointer, how many in a frame, its things (in tm) and its frames. -/
structure CacheAt (w : World) (dc tm rp per : Nat) (v : Value) (fs : List Int) (tl : List (Int × Unit)) : Prop where
  c0 : w.cell? ⟨dc, 0, none⟩ = some (.pointer (some ⟨rp, 0, none⟩))
  c1 : w.cell? ⟨dc, 1, none⟩ = some (.int .i64 per)
  c2 : w.cell? ⟨dc, 2, none⟩ = some (.map (some tm))
  c3 : w.cell? ⟨dc, 3, none⟩ = some v
  fz : ∀ i, w.frozen? ⟨dc, i, none⟩ = false
  fr : IntsAt w v fs
  mp : MapIs w tm (.int .i64) encI one tl
  ne : dc ≠ tm
  nv : ∀ g, v.ownBlock = some g → g ≠ dc ∧ g ≠ tm
def CFoot (dc tm : Nat) (v : Value) (k : Nat) : Prop := k = dc ∨ k = tm ∨ v.ownBlock = some k
section
variable {w w' : World} {dc tm rp per : Nat} {v : Value} {fs : List Int} {tl : List (Int × Unit)}
theorem CacheAt.turned {S : Nat → Prop} (h : CacheAt w dc tm rp per v fs tl) (t : Turn S w w') (hn : ∀ k, CFoot dc tm v k → ¬ S k) : CacheAt w' dc tm rp per v fs tl :=
  ⟨(t.cell (a := ⟨dc, 0, none⟩) (lt_of_cell h.c0) (hn dc (.inl rfl))).trans h.c0, (t.cell (a := ⟨dc, 1, none⟩) (lt_of_cell h.c1) (hn dc (.inl rfl))).trans h.c1, (t.cell (a := ⟨dc, 2, none⟩) (lt_of_cell h.c2) (hn dc (.inl rfl))).trans h.c2, (t.cell (a := ⟨dc, 3, none⟩) (lt_of_cell h.c3) (hn dc (.inl rfl))).trans h.c3,
   fun i => (t.frozen (a := ⟨dc, i, none⟩) (show dc < w.heap.size from lt_of_cell h.c0) (hn dc (.inl rfl))).trans (h.fz i), h.fr.turned t (fun g hg => hn g (.inr (.inr hg))), h.mp.turned t (hn tm (.inr (.inl rfl))), h.ne, h.nv⟩
theorem CacheAt.foot_lt (h : CacheAt w dc tm rp per v fs tl) (k : Nat) (hk : CFoot dc tm v k) : k < w.heap.size := by
  rcases hk with rfl | rfl | hk
  · exact lt_of_cell h.c0
  · exact h.mp.lt
  · rcases h.fr.shape with ⟨h1, _⟩ | ⟨g, cap, h1, _, _, hg⟩
    · rw [h1] at hk; cases hk
    · rw [h1] at hk; cases hk; exact hg
theorem zeroT (w : World) : (zeroValue 3).run Tryd.prog w = .ok (.int .i64 0) w := by kernel_rfl
def oneAt (tl : List (Int × Unit)) (k : Int) : Int := if (mget tl k).isSome then 1 else 0
theorem lookup_thing (h : MapIs w tm (.int .i64) encI one tl) (k : Int) : (Instr.lookup 33 (.map (some tm)) (.int .i64 k) false).run Tryd.prog w = .ok (.int .i64 (oneAt tl k)) w := by
  have h1 := h.run_lookup keyI Tryd.underlying33 Tryd.underlying3 (zeroT w) k false
  refine h1.trans ?_
  unfold oneAt
  cases mget tl k <;> rfl
def hasC (tl : List (Int × Unit)) (per : Nat) (f : Int) (k : Nat) : Nat := cntB (fun j => (mget tl (f * per + j)).isSome) k
set_option maxRecDepth 100000 in
theorem refHas_is (h : CacheAt w dc tm rp per v fs tl) (h1 : 1 ≤ per) (h2 : per ≤ 16) (f : Int) (hf : 0 ≤ f) (hf2 : f < 256) :
    Calls Tryd.prog 117 #[.pointer (some ⟨dc, 0, none⟩), .int .i64 f] w fun e w' => e = .returned (.int .i64 (hasC tl per f per)) ∧ Turn (fun _ => False) w w' := by
  have H := hid h
  have c1 := h.c1
  clear h
  go_enter Tryd.func117, Tryd.ntmps117
  go_wp2_with fail
  go_loopg [5, 11] per (fun g n i wr => ∃ j : Nat, j + g = per ∧ i = .int .i64 j ∧ n = .int .i64 (hasC tl per f j) ∧ Hid (Turn (fun _ => False) w wr))
  case atStart => exact ⟨0, by omega, rfl, rfl, hid (Turn.refl _ _)⟩
  case round =>
    obtain ⟨j, hj, rfl, rfl, hT⟩ := hrel
    by_cases hlt : j < per
    · have hlt' : (j : Int) < per := by omega
      have HC := hid (H.out.turned hT.out (fun _ _ => id))
      have c1 := HC.out.c1
      have c2 := HC.out.c2
      have hm0 : 0 ≤ f * per := Int.mul_nonneg hf (by omega)
      have hm1 : f * per ≤ 256 * 16 := Int.mul_le_mul (by omega) (by omega) (by omega) (by omega)
      have hw1 : IntKind.i64.wrap (f * per) = f * per := IntWalk.i64_in _ (by omega)
      have hw2 : IntKind.i64.wrap (f * per + j) = f * per + j := IntWalk.i64_in _ (by omega)
      have lk := fun k => lookup_thing (HC.out.mp.turned ((Turn.refl (fun _ => False) wr).drewN k) id) (f * per + j)
      have hs : hasC tl per f (j + 1) = hasC tl per f j + if (mget tl (f * per + j)).isSome then 1 else 0 := cntB_succ _ _
      have hle : hasC tl per f j ≤ j := cntB_le _ _
      have hs2 : ((hasC tl per f (j + 1) : Nat) : Int) = hasC tl per f j + oneAt tl (f * per + j) := by
        rw [hs]; unfold oneAt; split <;> simp
      obtain ⟨o, ho⟩ : ∃ o, oneAt tl (f * per + j) = o := ⟨_, rfl⟩
      have ho1 : 0 ≤ o ∧ o ≤ 1 := by rw [← ho]; unfold oneAt; split <;> omega
      rw [ho] at hs2 lk
      obtain ⟨N, hN⟩ : ∃ N, hasC tl per f j = N := ⟨_, rfl⟩
      rw [hN] at hs2 hle
      have hw3 : IntKind.i64.wrap (N + o) = N + o := IntWalk.i64_in _ (by omega)
      have HS := hid hs2
      clear hs hs2 ho
      rw [hN]
      clear hN
      go_wp2_with fail
      go_quiet (fail)
      go_wp2_with fail
      go_roundg (gk - 1)
      case measure => omega
      case rel => exact ⟨j + 1, by omega, by go_num, by rw [HS.out], hid (hT.out.drewN _)⟩
    · have hlt' : ¬ (j : Int) < per := by omega
      obtain rfl : j = per := by omega
      go_wp2_with fail
      go_ret
      exact ⟨rfl, hT.out⟩
theorem oneAt_none {tl : List (Int × Unit)} {k : Int} (h : mget tl k = none) : oneAt tl k = 0 := by unfold oneAt; rw [h]; rfl
theorem oneAt_some {tl : List (Int × Unit)} {k : Int} (h : mget tl k = some ()) : oneAt tl k = 1 := by unfold oneAt; rw [h]; rfl
theorem CacheAt.mapped (h : CacheAt w dc tm rp per v fs tl) (t : Turn (fun k => k = tm) w w') {tl' : List (Int × Unit)} (hm : MapIs w' tm (.int .i64) encI one tl') : CacheAt w' dc tm rp per v fs tl' :=
  ⟨(t.cell (a := ⟨dc, 0, none⟩) (lt_of_cell h.c0) h.ne).trans h.c0, (t.cell (a := ⟨dc, 1, none⟩) (lt_of_cell h.c1) h.ne).trans h.c1, (t.cell (a := ⟨dc, 2, none⟩) (lt_of_cell h.c2) h.ne).trans h.c2, (t.cell (a := ⟨dc, 3, none⟩) (lt_of_cell h.c3) h.ne).trans h.c3,
   fun i => (t.frozen (a := ⟨dc, i, none⟩) (show dc < w.heap.size from lt_of_cell h.c0) h.ne).trans (h.fz i), h.fr.turned t (fun g hg => (h.nv g hg).2), hm, h.ne, h.nv⟩
theorem refSGive (h : CacheAt w dc tm rp per v fs tl) (n : Int) : Calls Tryd.prog 59 #[.pointer (some ⟨dc, 0, none⟩), .int .i64 n] w fun e w' =>
    (mget tl n = none ∧ e = .returned (.int .i64 7) ∧ w = w') ∨ (mget tl n = some () ∧ e = .returned (.int .i64 0) ∧ CacheAt w' dc tm rp per v fs (mdel tl n) ∧ Turn (fun k => k = tm) w w') := by
  have H := hid h
  have c2 := h.c2
  have lk := lookup_thing h.mp n
  cases hm : mget tl n with
  | none =>
    rw [oneAt_none hm] at lk
    clear h hm
    go_enter Tryd.func59, Tryd.ntmps59
    go_wp2_with fail
    go_ret
    exact .inl ⟨trivial, rfl, rfl⟩
  | some u =>
    rw [oneAt_some hm] at lk
    clear h hm
    go_enter Tryd.func59, Tryd.ntmps59
    go_wp2_with (at_delete; refine wpList_mapdel rfl _ _ 33 3 3 rfl Tryd.underlying33 Tryd.underlying3 keyI tm rfl H.out.mp n rfl ?_; intro w4 hm4 t4; have HM4 := hid hm4; have HT4 := hid t4; clear hm4 t4)
    go_ret
    exact .inr ⟨trivial, rfl, H.out.mapped HT4.out HM4.out, HT4.out⟩
end
end Go.Proofs.YtiohpmcedfbcgabDoor
