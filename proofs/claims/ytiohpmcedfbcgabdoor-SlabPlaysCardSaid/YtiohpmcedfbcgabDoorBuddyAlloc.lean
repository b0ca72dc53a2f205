/- Package buddy: Alloc keeps a pool good; what it takes; when it is refused. Conditions: each theorem's own premises. -/
import Derived.Test.YtiohpmcedfbcgabDoorBuddyGive
namespace Go.Proofs.YtiohpmcedfbcgabDoor
open Go.RowKit
set_option linter.unusedVariables false

theorem leastOf_mem (x : Int) (xs : List Int) : leastOf x xs ∈ x :: xs ∧ ∀ y ∈ x :: xs, leastOf x xs ≤ y := by
  induction xs generalizing x with
  | nil => exact ⟨by simp [leastOf], by simp [leastOf]⟩
  | cons y xs ih =>
    have e : leastOf x (y :: xs) = leastOf (if y < x then y else x) xs := rfl
    rw [e]
    obtain ⟨h1, h2⟩ := ih (if y < x then y else x)
    have h3 := h2 _ (List.mem_cons_self ..)
    have h4 : (if y < x then y else x) ≤ x ∧ (if y < x then y else x) ≤ y := by split <;> constructor <;> omega
    refine ⟨?_, fun z hz => ?_⟩
    · rcases List.mem_cons.1 h1 with h | h
      · rw [h]; split <;> simp
      · simp [h]
    · rcases List.mem_cons.1 hz with rfl | hz
      · exact Int.le_trans h3 h4.1
      · rcases List.mem_cons.1 hz with rfl | hz
        · exact Int.le_trans h3 h4.2
        · exact h2 z (List.mem_cons_of_mem _ hz)

theorem wrap_sz : ∀ k : Fin 7, IntKind.i64.wrap (2 ^ k.val) = sz k.val := by decide +kernel

theorem mget_fresh {n : Int} {fr : Fr} {tk : List (Int × Nat)} {b : Int} {k : Nat} (h : Good n fr ((b, k) :: tk)) : mget tk b = none := mget_none (fun t ht e => by
  have := (List.pairwise_cons.1 h.tt).1 t ht
  have h1 := sz_pos k
  have h2 := sz_pos t.2
  simp only [Ov, not_and] at this
  omega)
theorem mput_perm {tk : List (Int × Nat)} {b : Int} {k : Nat} (h : mget tk b = none) : ((b, k) :: tk).Perm (mput tk b k) := by
  unfold mput
  rw [h]
  exact (List.perm_append_singleton _ _).symm

theorem alloc_arg {w : World} (p : Nat) (o : Int) (h : o < 0 ∨ 6 < o) :
    Calls Tryd.prog 18 #[.pointer (some ⟨p, 0, none⟩), .int .i64 o] w fun e w' => e = .returned (.tuple #[.int .i64 0, .iface 40 (.int .i64 1)]) ∧ w = w' := by
  rcases h with h | h
  · go_enter Tryd.func18, Tryd.ntmps18
    go_wp2_with fail
    go_ret2
    exact ⟨rfl, rfl⟩
  · have h' : ¬ o < 0 := by omega
    go_enter Tryd.func18, Tryd.ntmps18
    go_wp2_with fail
    go_ret2
    exact ⟨rfl, rfl⟩

def AllocFull (q : Pl) (o : Nat) (w : World) (e : Ending) (w' : World) : Prop :=
  e = .returned (.tuple #[.int .i64 0, .iface 40 (.int .i64 12)]) ∧ w = w' ∧ ∀ k, o ≤ k → k < 7 → q.fr k = []
def AllocGot (p mb : Nat) (vs : Nat → Value) (q : Pl) (o : Nat) (w : World) (e : Ending) (w' : World) : Prop :=
  ∃ (k : Nat) (base : Int) (fr' : Fr), o ≤ k ∧ k < 7 ∧ (∀ j, o ≤ j → j < k → q.fr j = []) ∧ base ∈ q.fr k ∧ (∀ c ∈ q.fr k, base ≤ c) ∧ e = .returned (.tuple #[.int .i64 base, .nilIface]) ∧
    mget q.tk base = none ∧ Good q.n fr' (mput q.tk base o) ∧ PoolAfter p mb vs w w' ⟨q.n, fr', mput q.tk base o⟩
def AllocRes (p mb : Nat) (vs : Nat → Value) (q : Pl) (o : Nat) (w : World) (e : Ending) (w' : World) : Prop := AllocFull q o w e w' ∨ AllocGot p mb vs q o w e w'

set_option maxHeartbeats 4000000 in
theorem alloc_any {w : World} {p mb : Nat} {vs : Nat → Value} {q : Pl} (h : PoolAt w p mb vs q) (o : Nat) (ho : o ≤ 6) (hg : Good q.n q.fr q.tk) (hn : q.n ≤ 256) :
    Calls Tryd.prog 18 #[.pointer (some ⟨p, 0, none⟩), .int .i64 o] w (AllocRes p mb vs q o w) := by
  have H := hid h
  have HG := hid hg
  have ho' : (o : Int) ≤ 6 := by omega
  have hltp := h.lt
  clear h hg
  go_enter Tryd.func18, Tryd.ntmps18
  go_wp2_with fail
  go_loop [6] (fun k' => ∃ k : Nat, o ≤ k ∧ k ≤ 7 ∧ k' = .int .i64 k ∧ Hid (∀ j, o ≤ j → j < k → q.fr j = [])) (fun k' => 7 - (intOf k').toNat)
  case atStart => exact ⟨o, Nat.le_refl _, by omega, rfl, hid (fun j h1 h2 => by omega)⟩
  case round =>
    obtain ⟨k, hk1, hk2, rfl, hE⟩ := hrel
    by_cases hk7 : k < 7
    · have hk7' : (k : Int) < 7 := by omega
      have hk6' : (k : Int) ≤ 6 := by omega
      have hcf := H.out.cf k hk7
      obtain ⟨a1, z1, e1⟩ := (H.out.fi k hk7).slice
      have hl := HG.out.len hn k hk7
      rw [e1] at hcf
      have HE1 := hid e1
      clear e1
      by_cases he : q.fr k = []
      · have hle : (q.fr k).length = 0 := by rw [he]; rfl
        have HEm := hid he
        clear he
        rw [hle] at hcf
        clear hle
        go_wp2_with fail
        go_round
        case rel => exact ⟨k + 1, by omega, by omega, by go_num, hid (fun j h1 h2 => by
          by_cases e : j = k
          · rw [e]; exact HEm.out
          · exact hE.out j h1 (by omega))⟩
        case measure => simp [intOf]; omega
      · obtain ⟨x, xs, hx⟩ : ∃ x xs, q.fr k = x :: xs := by
          cases hf : q.fr k with
          | nil => exact absurd hf he
          | cons x xs => exact ⟨x, xs, rfl⟩
        have hpos : ((q.fr k).length == 0) = false := by rw [hx]; rfl
        have hpos' : 0 < (q.fr k).length := by rw [hx]; simp
        have hpi : (((q.fr k).length : Int) == 0) = false := beq_eq_false_iff_ne.2 (by omega)
        clear hpos
        obtain ⟨hbm, hbl⟩ := leastOf_mem x xs
        have HX := hid hx
        rw [← hx] at hbm hbl
        obtain ⟨_, hb0, hba, hbn⟩ := HG.out.okF k _ hk7 hbm
        have hsp := sz_pos k
        have HB := hid (And.intro hbm hbl)
        have HBA := hid (And.intro hba hbn)
        have hb1 : leastOf x xs < 256 := by omega
        clear hx hbm hbl hba hbn hsp
        have hmin := min_ints (xs := xs) (by rw [← HX.out]; exact H.out.fi k hk7) (by have := congrArg List.length HX.out; simp at this; omega)
        rw [HE1.out] at hmin
        have HMin := hid hmin
        clear hmin
        generalize leastOf x xs = base at *
        go_wp2_with fail
        refine HMin.out.mono ?_
        rintro e w1 ⟨rfl, rfl⟩
        go_wp2_with fail
        refine (out_any H.out k hk7 base (by omega)).mono ?_
        rintro e w1 ⟨rfl, hp1⟩
        have HP1 := hid hp1
        clear hp1 hcf
        go_wp2_with fail
        go_loopw [6] (fun k' wr => ∃ (j : Nat) (fr : Fr), k' = .int .i64 j ∧ o ≤ j ∧ j < 7 ∧ Hid (Good q.n fr ((base, j) :: q.tk)) ∧ Hid (PoolAfter p mb vs w wr ⟨q.n, fr, q.tk⟩)) (fun k' _ => (intOf k').toNat)
        case atStart => exact ⟨k, _, rfl, hk1, hk7, hid (HG.out.take hk7 HB.out.1), HP1⟩
        case round =>
          clear HP1
          obtain ⟨j, fr, rfl, hj1, hj2, hGj, hPj⟩ := hrel
          by_cases hjo : o < j
          · obtain ⟨i, rfl⟩ : ∃ i, j = i + 1 := ⟨j - 1, by omega⟩
            obtain ⟨vs1, hp, t2, g2⟩ := hPj.out
            have hx := wrap_sz ⟨i, by omega⟩
            simp only at hx
            have hs1 := sz_pos i
            have hs2 := sz_le (k := i) (by omega)
            have hi7 : (i : Int) < 7 := by omega
            have hx3 : IntKind.i64.wrap (base + sz i) = base + sz i := IntWalk.i64_in _ (by omega)
            have hwi : IntKind.i64.wrap (i : Int) = i := IntWalk.i64_in _ (by omega)
            have hcf := hp.cf i (by omega)
            have hl1 := hGj.out.len hn i (by omega)
            have HP1 := hid hp
            have HT2 := hid t2
            have HG2 := hid g2
            have HL := hid (HP1.out.lays i (by omega) (base + sz i))
            have hltp := HP1.out.lt
            have hfz := HP1.out.fz (1 + i)
            clear hp t2 g2
            go_wp2_with fail
            go_region_law (refine step_append_int rfl _ _ rfl (vs1 i) (fr i) rfl HL.out.1 wr.heap.size 1 (base + sz i) rfl HL.out.2.1 (by omega) ?_; intro g3 z3 w3 hi3 t3 ho3; obtain ⟨hc3, hf3⟩ := HL.out.2.2 w3 t3; have HI3 := hid hi3; have HT3 := hid t3; have HO3 := hid ho3; clear hi3 t3 ho3)
            all_goals
              go_wp2_with fail
              go_roundw
              case rel => exact ⟨i, _, rfl, by omega, by omega, hid hGj.out.split, hid (PoolAfter.trans HT2.out HG2.out (HP1.out.appended i (by omega) (c := base + sz i) HT3.out HI3.out HO3.out))⟩
              case measure => first | (simp [intOf]; done) | (simp [intOf]; omega)
          · obtain rfl : j = o := by omega
            obtain ⟨vs1, hp, t2, g2⟩ := hPj.out
            have hcm := hp.cm
            have HP1 := hid hp
            have HT2 := hid t2
            have HG2 := hid g2
            clear hp t2 g2
            have hno := hid (mget_fresh hGj.out)
            go_wp2_with (at_mapUpdate; refine wpList_mapput rfl _ _ _ 33 3 3 rfl Tryd.underlying33 Tryd.underlying3 keyI mb rfl HP1.out.mp base rfl j rfl ?_; intro w3 hm3 t3; have HM3 := hid hm3; have HT3 := hid t3; clear hm3 t3)
            go_ret2
            refine .inr ⟨k, base, fr, hk1, hk7, hE.out, HB.out.1, HB.out.2, rfl, hno.out, hGj.out.perm (mput_perm hno.out), ?_⟩
            exact PoolAfter.trans HT2.out HG2.out ⟨vs1, HP1.out.mapped HT3.out _ HM3.out, HT3.out.mono (fun _ _ e => .inr (.inl e)), fun _ h => .inl h⟩
    · have hk : k = 7 := by omega
      subst hk
      go_wp2_with fail
      go_ret2
      exact .inl ⟨rfl, rfl, fun k h1 h2 => hE.out k h1 h2⟩
end Go.Proofs.YtiohpmcedfbcgabDoor
