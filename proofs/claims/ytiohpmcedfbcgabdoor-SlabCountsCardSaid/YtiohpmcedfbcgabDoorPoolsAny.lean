/- Operations in memory; an Errno as an error; Give of both pools whatever is given. Conditions: each theorem's own premises. -/
import Derived.Test.YtiohpmcedfbcgabDoorTwoPools
import Derived.Test.YtiohpmcedfbcgabDoorPlace
namespace Go.Proofs.YtiohpmcedfbcgabDoor
open Go.RowKit
set_option linter.unusedVariables false

/-- Operations (which, two numbers, a word) lie from off on in block b. -/
def OpsAt (w : World) (b off : Nat) (xs : List (Int × Int × Int × Int)) : Prop :=
  ∀ j x, xs[j]? = some x → w.cell? ⟨b, off + j * 4, none⟩ = some (.int .i64 x.1) ∧ w.cell? ⟨b, off + j * 4 + 1, none⟩ = some (.int .i64 x.2.1) ∧ w.cell? ⟨b, off + j * 4 + 2, none⟩ = some (.int .i64 x.2.2.1) ∧ w.cell? ⟨b, off + j * 4 + 3, none⟩ = some (.int .i64 x.2.2.2)
theorem OpsAt.turned {w w' : World} {b off : Nat} {xs : List (Int × Int × Int × Int)} {S : Nat → Prop} (h : OpsAt w b off xs) (t : Turn S w w') (hb : b < w.heap.size) (hn : ¬ S b) : OpsAt w' b off xs := fun j x hx => by
  obtain ⟨a, c, d, e⟩ := h j x hx
  exact ⟨(t.cell (a := ⟨b, _, none⟩) hb hn).trans a, (t.cell (a := ⟨b, _, none⟩) hb hn).trans c, (t.cell (a := ⟨b, _, none⟩) hb hn).trans d, (t.cell (a := ⟨b, _, none⟩) hb hn).trans e⟩

/-- An Errno as an error: nil for 0. -/
def errB (z : Int) : Value := if z = 0 then .nilIface else .iface 40 (.int .i64 z)
theorem errB0 : errB 0 = .nilIface := rfl
theorem bareB (z : Int) (w : World) (hg : Laid w) : Calls Tryd.prog 22 #[errB z, .int .i64 z] w fun e w' => e = .returned (.bool true) ∧ Turn (fun _ => False) w w' := by
  by_cases hz : z = 0
  · subst hz
    exact bare_nil w
  · have e : errB z = .iface 40 (.int .i64 z) := by unfold errB; rw [if_neg hz]
    rw [e]
    exact bare_errno z w hg

/-- What both Give answer, what is taken then, and which frames are free then. -/
def giveR (tk : List Bk) (b o : Int) : Int := if (mget tk b).map (fun k : Nat => (k : Int)) = some o then 0 else 7
def giveT (tk : List Bk) (b o : Int) : List Bk := if (mget tk b).map (fun k : Nat => (k : Int)) = some o then mdel tk b else tk
def giveB (g : Bits) (tk : List Bk) (b o : Int) : Bits := if (mget tk b).map (fun k : Nat => (k : Int)) = some o then fill g b (b + sz o.toNat) true else g
theorem giveB_bits {n : Nat} {fr : Fr} {tk : List Bk} {g : Bits} (h : BitsOf n tk g) (hg : Good n fr tk) (hnd : MNodup tk) (b o : Int) : BitsOf n (giveT tk b o) (giveB g tk b o) := by
  unfold giveT giveB
  split
  · rename_i hm
    cases e : mget tk b with
    | none => rw [e] at hm; cases hm
    | some k =>
      rw [e] at hm
      simp only [Option.map_some, Option.some.injEq] at hm
      subst hm
      rw [Int.toNat_natCast]
      exact h.gave hg hnd e
  · exact h
theorem give_any {w : World} {p mb : Nat} {vs : Nat → Value} {n : Int} {fr : Fr} {tk : List Bk} (h : PoolAt w p mb vs ⟨n, fr, tk⟩) (hg : Good n fr tk) (hn : n ≤ 256) (b o : Int) :
    Calls Tryd.prog 27 #[.pointer (some ⟨p, 0, none⟩), .int .i64 b, .int .i64 o] w fun e w' => e = .returned (errB (giveR tk b o)) ∧ ∃ fr', Good n fr' (giveT tk b o) ∧ PoolAfter p mb vs w w' ⟨n, fr', giveT tk b o⟩ := by
  unfold giveR giveT
  cases e : mget tk b with
  | none =>
    rw [if_neg (by simp), if_neg (by simp)]
    refine (give_missing h b o e).mono ?_
    rintro e w' ⟨rfl, rfl⟩
    exact ⟨rfl, fr, hg, PoolAfter.refl h⟩
  | some k =>
    by_cases hk : (k : Int) = o
    · subst hk
      rw [if_pos (by simp), if_pos (by simp)]
      refine (give_ok h b k e hg hn).mono ?_
      rintro e w' ⟨rfl, fr', h1, h2⟩
      exact ⟨rfl, fr', h1, h2⟩
    · rw [if_neg (by simpa using hk), if_neg (by simpa using hk)]
      refine (give_other h b o k e hk).mono ?_
      rintro e w' ⟨rfl, rfl⟩
      exact ⟨rfl, fr, hg, PoolAfter.refl h⟩
theorem refGive_any {w : World} {p fb mb cp n : Nat} {g : Bits} {fr : Fr} {tk : List Bk} (h : RefAt w p fb mb cp n g tk) (hg : Good n fr tk) (hn : n ≤ 256) (b o : Int) :
    Calls Tryd.prog 28 #[.pointer (some ⟨p, 0, none⟩), .int .i64 b, .int .i64 o] w fun e w' => e = .returned (.int .i64 (giveR tk b o)) ∧ RefAt w' p fb mb cp n (giveB g tk b o) (giveT tk b o) ∧ Turn (fun j => j = fb ∨ j = mb) w w' := by
  unfold giveR giveT giveB
  cases e : mget tk b with
  | none =>
    rw [if_neg (by simp), if_neg (by simp), if_neg (by simp)]
    refine (refGive_missing h b o e).mono ?_
    rintro e w' ⟨rfl, rfl⟩
    exact ⟨rfl, h, Turn.refl _ _⟩
  | some k =>
    by_cases hk : (k : Int) = o
    · subst hk
      rw [if_pos (by simp), if_pos (by simp), if_pos (by simp), Int.toNat_natCast]
      obtain ⟨hk7, hb0, _, hbn⟩ := hg.okT (b, k) (mem_of_mget e)
      simp only at hk7 hb0 hbn
      obtain ⟨bn, rfl⟩ : ∃ bn : Nat, b = bn := ⟨b.toNat, by omega⟩
      exact refGive_ok h bn k e hk7 hbn hn
    · rw [if_neg (by simpa using hk), if_neg (by simpa using hk), if_neg (by simpa using hk)]
      refine (refGive_other h b o k e hk).mono ?_
      rintro e w' ⟨rfl, rfl⟩
      exact ⟨rfl, h, Turn.refl _ _⟩
end Go.Proofs.YtiohpmcedfbcgabDoor
