/- What AcctWhole's walks share: notions, plain laws, and the call with too many. Conditions: each theorem's own premises. -/
import Derived.Test.YtiohpmcedfbcgaaDoorCharged
import Derived.Test.YtiohpmcedfbcgaaDoorPick
import Derived.Deep.RegionWith
import Derived.Deep.LoopGhost
namespace Go.Proofs.YtiohpmcedfbcgaaDoor
open Go.RowKit
set_option linter.unusedVariables false

/-- Ints lie from off on in block b. -/
def NumsAt (w : World) (b off : Nat) (xs : List Int) : Prop := ∀ j x, xs[j]? = some x → w.cell? ⟨b, off + j, none⟩ = some (.int .i64 x)
theorem NumsAt.turned {w w' : World} {b off : Nat} {xs : List Int} {S : Nat → Prop} (h : NumsAt w b off xs) (t : Turn S w w') (hb : b < w.heap.size) (hn : ¬ S b) : NumsAt w' b off xs :=
  fun j x hx => (t.cell (a := ⟨b, off + j, none⟩) hb hn).trans (h j x hx)
/-- What a slice of asks is. -/
def AskRow (w : World) (v : Value) (r : List (Int × Int)) : Prop :=
  ∃ a cap, v = .slice a r.length cap ∧ r.length ≤ cap ∧ cap ≤ maxLen ∧ (r ≠ [] → ∃ g o, a = some ⟨g, o, none⟩ ∧ AsksAt w g o r ∧ g < w.heap.size)
/-- Slices of asks lie from off on in block b. -/
def RowsAt (w : World) (b off : Nat) (rs : List (List (Int × Int))) : Prop := ∀ j r, rs[j]? = some r → ∃ v, w.cell? ⟨b, off + j, none⟩ = some v ∧ AskRow w v r

def Under (u m : Nat → Int) : Prop := ∀ k, k < 3 → u k ≤ m k
theorem under_done {u m : Nat → Int} (h : Under u m) {x : Int × Int} (h0 : why u m x = 0) : Under (done u x) m := by
  intro k hk
  have h1 := h k hk
  unfold done
  by_cases e : k = x.1.toNat
  · subst e
    rw [upd_same]
    unfold why at h0
    split at h0
    · cases h0
    · split at h0
      · cases h0
      · split at h0
        · cases h0
        · rename_i _ _ h3
          by_cases hx : 0 < x.2
          · simp only [not_and] at h3; have := h3 hx; omega
          · omega
  · rw [upd_other _ _ e]; exact h1
theorem under_chg {m : Nat → Int} : ∀ {xs : List (Int × Int)} {u v : Nat → Int} {i : Nat}, Under u m → chg m u xs i = .inr v → Under v m
  | [], u, v, i, h, hc => by simp only [chg, Sum.inr.injEq] at hc; subst hc; exact h
  | x :: xs, u, v, i, h, hc => by
    simp only [chg] at hc
    split at hc
    · rename_i h0; exact under_chg (under_done h h0) hc
    · cases hc
theorem chg_cong {m : Nat → Int} : ∀ {xs : List (Int × Int)} {u u' : Nat → Int} (i : Nat), (∀ k, k < 3 → u k = u' k) → ∀ {v}, chg m u xs i = .inr v → ∃ v', chg m u' xs i = .inr v' ∧ ∀ k, k < 3 → v k = v' k
  | [], u, u', i, h, v, hc => by simp only [chg, Sum.inr.injEq] at hc; subst hc; exact ⟨u', rfl, h⟩
  | x :: xs, u, u', i, h, v, hc => by
    simp only [chg] at hc ⊢
    have hw : why u m x = why u' m x := by
      unfold why
      by_cases hk : x.1 < 0 ∨ 3 ≤ x.1
      · rw [if_pos hk, if_pos hk]
      · rw [if_neg hk, if_neg hk, h x.1.toNat (by omega)]
    split at hc
    · rename_i h0
      have h0' : why u' m x = 0 := by rw [← hw]; exact h0
      rw [if_pos h0']
      refine chg_cong (i + 1) (fun k hk => ?_) hc
      unfold done
      by_cases e : k = x.1.toNat
      · subst e; rw [upd_same, upd_same, h _ hk]
      · rw [upd_other _ _ e, upd_other _ _ e, h k hk]
    · cases hc

theorem fit_part {u m : Nat → Int} (h : Fit u m) (kk : Nat) : Fit (fun j => if j < kk then u j else 0) (fun j => if j < kk + 1 then m j else 0) := fun j hj => by
  obtain ⟨a, b, c, d⟩ := h j hj
  refine ⟨?_, ?_, ?_, ?_⟩ <;> (simp only; split <;> omega)
theorem chg_part {u m : Nat → Int} (h : Fit u m) (hU : Under u m) (kk : Nat) (hk : kk < 3) : chg (fun j => if j < kk + 1 then m j else 0) (fun j => if j < kk then u j else 0) [((kk : Int), u kk)] 0 = .inr (done (fun j => if j < kk then u j else 0) ((kk : Int), u kk)) := by
  obtain ⟨a, b, c, d⟩ := h kk hk
  have e := hU kk hk
  have h0 : why (fun j => if j < kk then u j else 0) (fun j => if j < kk + 1 then m j else 0) ((kk : Int), u kk) = 0 := by
    unfold why
    rw [if_neg (by simp only; omega), if_neg (by simp only; omega), if_neg (by simp; omega), if_neg (by simp; omega)]
  simp only [chg]
  rw [if_pos h0]
theorem chg_back {u m : Nat → Int} (h : Fit u m) (hU : Under u m) (kk : Nat) (hk : kk < 3) : ∃ v, chg m u [((kk : Int), -(u kk)), ((kk : Int), u kk)] 0 = .inr v ∧ ∀ k, k < 3 → v k = u k := by
  obtain ⟨a, b, c, d⟩ := h kk hk
  have e := hU kk hk
  have h0 : why u m ((kk : Int), -(u kk)) = 0 := by
    unfold why
    rw [if_neg (by simp only; omega), if_neg (by simp only; omega), if_neg (by simp only [Int.toNat_natCast]; omega), if_neg (by simp only [Int.toNat_natCast]; omega)]
  have hd : done u ((kk : Int), -(u kk)) kk = 0 := by
    unfold done
    simp only [Int.toNat_natCast, upd_same]; omega
  have h1 : why (done u ((kk : Int), -(u kk))) m ((kk : Int), u kk) = 0 := by
    unfold why
    simp only [Int.toNat_natCast, hd]
    rw [if_neg (by omega), if_neg (by omega), if_neg (by omega), if_neg (by omega)]
  simp only [chg]
  rw [if_pos h0, if_pos h1]
  refine ⟨_, rfl, fun k hk' => ?_⟩
  by_cases e1 : k = kk
  · subst e1
    have h2 : done (done u ((k : Int), -(u k))) ((k : Int), u k) k = done u ((k : Int), -(u k)) k + u k := by
      show upd _ _ _ k = _
      simp only [Int.toNat_natCast, upd_same]
    rw [h2, hd]; omega
  · show upd _ _ _ k = _
    rw [Int.toNat_natCast, upd_other _ _ e1]
    show upd _ _ _ k = _
    rw [Int.toNat_natCast, upd_other _ _ e1]
theorem take_more' {α : Type} {xs : List α} {j : Nat} {y : α} (h : xs[j]? = some y) : xs.take (j + 1) = xs.take j ++ [y] := by rw [List.take_add_one, h]; rfl
theorem now_new (w : World) (o : Obj) : NowIs ((w.alloc o).alloc (.cells #[.int .i64 0, .int .i64 0, .int .i64 0] 43)) (w.heap.size + 1) (fun _ => 0) := by
  have hz : w.heap.size + 1 = (w.alloc o).heap.size := (World.size_alloc _ _).symm
  rw [hz]
  exact ⟨fun k hk => by
    match k, hk with
    | 0, _ => simp
    | 1, _ => simp
    | 2, _ => simp, fun k => by simp⟩

set_option maxRecDepth 100000 in
theorem acct_many (a : Option Addr) (n cap : Nat) (a2 : Option Addr) (n2 cap2 : Nat) (w : World) (h : 20 < n ∨ 30 < n2) (hm : n ≤ 9223372036854775807) (hm2 : n2 ≤ 9223372036854775807) :
    Calls Tryd.prog 4 #[.slice a n cap, .slice a2 n2 cap2] w fun e w' => e = .returned (.bool true) ∧ Turn (fun _ => False) w w' := by
  by_cases h1 : 20 < n
  · have h' : (20 : Int) < n := by omega
    clear h
    go_enter Tryd.func4, Tryd.ntmps4
    go_wp2_with fail
    all_goals go_ret
    all_goals exact ⟨rfl, Turn.refl _ _⟩
  · have h' : decide ((20 : Int) < n) = false := by rw [decide_eq_false_iff_not]; omega
    have h'' : (30 : Int) < n2 := by omega
    clear h
    go_enter Tryd.func4, Tryd.ntmps4
    go_wp2_with fail
    all_goals go_ret
    all_goals exact ⟨rfl, Turn.refl _ _⟩
end Go.Proofs.YtiohpmcedfbcgaaDoor
