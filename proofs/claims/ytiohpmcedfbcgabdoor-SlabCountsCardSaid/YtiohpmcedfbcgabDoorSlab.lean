/- Package slab: what a cache is in memory; New, Frames, Give; Index and Contains at rows of bools. Conditions: each theorem's own premises. -/
import Derived.Test.YtiohpmcedfbcgabDoorProg
import Derived.Test.YtiohpmcedfbcgabDoorMaps
import Derived.BigRegion
import Derived.Outline
import Derived.Deep.LoopGhost
import Derived.Deep.QuietTactic
import Derived.BigQuiet
namespace Go.Proofs.YtiohpmcedfbcgabDoor
open Go.RowKit
set_option linter.unusedVariables false

/-- A row of bools lies in block b: k of them, as g says. -/
structure RowB (w : World) (b k : Nat) (g : Nat → Bool) : Prop where
  cell : ∀ j, j < k → w.cell? ⟨b, j, none⟩ = some (.bool (g j))
  fz : ∀ j, w.frozen? ⟨b, j, none⟩ = false
  lt : b < w.heap.size
theorem RowB.turned {S : Nat → Prop} {w w' : World} {b k : Nat} {g : Nat → Bool} (h : RowB w b k g) (t : Turn S w w') (hn : ¬ S b) : RowB w' b k g :=
  ⟨fun j hj => (t.cell (a := ⟨b, j, none⟩) h.lt hn).trans (h.cell j hj), fun j => (t.frozen (a := ⟨b, j, none⟩) h.lt hn).trans (h.fz j), Nat.lt_of_lt_of_le h.lt t.size⟩
def setB (g : Nat → Bool) (j : Nat) (v : Bool) : Nat → Bool := fun i => if i = j then v else g i
theorem RowB.set {w : World} {b k : Nat} {g : Nat → Bool} (h : RowB w b k g) (j : Nat) (hj : j < k) (v : Bool) : RowB (w.setCell ⟨b, j, none⟩ (.bool v)) b k (setB g j v) := by
  refine ⟨fun i hi => ?_, fun i => ?_, by simpa using h.lt⟩
  · unfold setB
    by_cases e : i = j
    · subst e
      rw [if_pos rfl]
      exact World.cell?_setCell_same _ _ _ (h.cell i hi)
    · rw [if_neg e, World.cell?_setCell_other _ _ _ _ (by simp)]
      exact h.cell i hi
  · rw [World.frozen?_setCell]
    exact h.fz i

/-- What Index tells: the first that is so, or -1. -/
def FirstB (k : Nat) (g : Nat → Bool) (v : Bool) (r : Int) : Prop := (r = -1 ∧ ∀ j, j < k → g j ≠ v) ∨ ∃ j : Nat, r = j ∧ j < k ∧ g j = v ∧ ∀ i, i < j → g i ≠ v
set_option maxRecDepth 100000 in
theorem index_bools {w : World} {b k : Nat} {g : Nat → Bool} (h : RowB w b k g) (hk : k ≤ 1000) (v : Bool) :
    Calls Tryd.prog 120 #[.slice (some ⟨b, 0, none⟩) k k, .bool v] w fun e w' => ∃ r, e = .returned (.int .i64 r) ∧ FirstB k g v r ∧ w = w' := by
  have H := hid h
  clear h
  go_enter Tryd.func120, Tryd.ntmps120
  go_wp2_with fail
  go_loop [8] (fun i => ∃ j : Nat, j ≤ k ∧ i = .int .i64 j ∧ Hid (∀ i, i < j → g i ≠ v)) (fun i => k - (intOf i).toNat)
  case atStart => exact ⟨0, Nat.zero_le _, rfl, hid (fun i h => by omega)⟩
  case round =>
    obtain ⟨j, hj, rfl, hN⟩ := hrel
    by_cases hlt : j < k
    · have hlt' : (j : Int) < k := by omega
      have hc := H.out.cell j hlt
      by_cases hv : g j = v
      · rw [hv] at hc
        have HV := hid hv
        clear hv
        have hvv : (v == v) = true := by simp
        go_wp2_with fail
        go_ret
        exact ⟨j, rfl, .inr ⟨j, rfl, hlt, HV.out, hN.out⟩, rfl⟩
      · have hb : (g j == v) = false := beq_eq_false_iff_ne.2 hv
        have hb2 : (v == g j) = false := beq_eq_false_iff_ne.2 (fun e => hv e.symm)
        have HV := hid hv
        clear hv
        go_wp2_with fail
        go_round
        case rel => exact ⟨j + 1, by omega, by go_num, hid (fun i hi => by
          by_cases e : i = j
          · rw [e]; exact HV.out
          · exact hN.out i (by omega))⟩
        case measure => simp [intOf]; omega
    · have hlt' : ¬ (j : Int) < k := by omega
      go_wp2_with fail
      go_ret
      exact ⟨-1, rfl, .inl ⟨rfl, fun i hi => hN.out i (by omega)⟩, rfl⟩
theorem contains_bools {w : World} {b k : Nat} {g : Nat → Bool} (h : RowB w b k g) (hk : k ≤ 1000) (v : Bool) :
    Calls Tryd.prog 119 #[.slice (some ⟨b, 0, none⟩) k k, .bool v] w fun e w' => w = w' ∧ ((e = .returned (.bool true) ∧ ∃ j, j < k ∧ g j = v) ∨ (e = .returned (.bool false) ∧ ∀ j, j < k → g j ≠ v)) := by
  have HI := hid (index_bools h hk v)
  clear h
  go_enter Tryd.func119, Tryd.ntmps119
  go_wp2_with fail
  refine HI.out.mono ?_
  rintro e w1 ⟨r, rfl, ⟨rfl, hno⟩ | ⟨j, rfl, hj, hv, _⟩, rfl⟩
  · have HNo := hid hno
    clear hno
    go_wp2_with fail
    go_ret
    exact ⟨rfl, .inr ⟨rfl, HNo.out⟩⟩
  · have HV := hid hv
    have hj0 : (0 : Int) ≤ j := by omega
    clear hv
    go_wp2_with fail
    go_ret
    exact ⟨rfl, .inl ⟨rfl, j, hj, HV.out⟩⟩

/-- A cache at cb: its pool's pointer, so many in a frame, and of each frame the block that its row lies in. -/
structure SlabIs (w : World) (cb sm p per : Nat) (l : List (Int × Nat)) (B : Nat → Nat → Bool) : Prop where
  c0 : w.cell? ⟨cb, 0, none⟩ = some (.pointer (some ⟨p, 0, none⟩))
  c1 : w.cell? ⟨cb, 1, none⟩ = some (.int .i64 per)
  c2 : w.cell? ⟨cb, 2, none⟩ = some (.map (some sm))
  mp : MapIs w sm (.int .i64) encI (fun b : Nat => Value.slice (some ⟨b, 0, none⟩) per per) l
  row : ∀ t ∈ l, RowB w t.2 per (B t.2)
  inj : (l.map (·.2)).Nodup
  ap : ∀ t ∈ l, t.2 ≠ cb ∧ t.2 ≠ sm
  ne : cb ≠ sm
def SFoot (cb sm : Nat) (l : List (Int × Nat)) (k : Nat) : Prop := k = cb ∨ k = sm ∨ k ∈ l.map (·.2)
section
variable {w w' : World} {cb sm p per : Nat} {l : List (Int × Nat)} {B : Nat → Nat → Bool}
theorem SlabIs.turned {S : Nat → Prop} (h : SlabIs w cb sm p per l B) (t : Turn S w w') (hn : ∀ k, SFoot cb sm l k → ¬ S k) : SlabIs w' cb sm p per l B :=
  ⟨(t.cell (a := ⟨cb, 0, none⟩) (lt_of_cell h.c0) (hn cb (.inl rfl))).trans h.c0, (t.cell (a := ⟨cb, 1, none⟩) (lt_of_cell h.c1) (hn cb (.inl rfl))).trans h.c1, (t.cell (a := ⟨cb, 2, none⟩) (lt_of_cell h.c2) (hn cb (.inl rfl))).trans h.c2,
   h.mp.turned t (hn sm (.inr (.inl rfl))), fun s hs => (h.row s hs).turned t (hn s.2 (.inr (.inr (List.mem_map.2 ⟨s, hs, rfl⟩)))), h.inj, h.ap, h.ne⟩
theorem SlabIs.foot_lt (h : SlabIs w cb sm p per l B) (k : Nat) (hk : SFoot cb sm l k) : k < w.heap.size := by
  rcases hk with rfl | rfl | hk
  · exact lt_of_cell h.c0
  · exact h.mp.lt
  · obtain ⟨t, ht, rfl⟩ := List.mem_map.1 hk
    exact (h.row t ht).lt
def updR (B : Nat → Nat → Bool) (b : Nat) (g : Nat → Bool) : Nat → Nat → Bool := fun j => if j = b then g else B j
theorem updR_same (B : Nat → Nat → Bool) (b : Nat) (g : Nat → Bool) : updR B b g b = g := by simp [updR]
theorem updR_other (B : Nat → Nat → Bool) {b j : Nat} (g : Nat → Bool) (h : j ≠ b) : updR B b g j = B j := by simp [updR, h]
theorem updR_updR (B : Nat → Nat → Bool) (b : Nat) (g g' : Nat → Bool) : updR (updR B b g) b g' = updR B b g' := by
  funext j; unfold updR; split <;> rfl
theorem SlabIs.put (h : SlabIs w cb sm p per l B) {f : Int} {b : Nat} (hb : (f, b) ∈ l) {g : Nat → Bool} (t : Turn (fun k => k = b) w w') (hr : RowB w' b per g) : SlabIs w' cb sm p per l (updR B b g) := by
  obtain ⟨a1, a2⟩ := h.ap _ hb
  simp only at a1 a2
  refine ⟨(t.cell (a := ⟨cb, 0, none⟩) (lt_of_cell h.c0) (fun e => a1 e.symm)).trans h.c0, (t.cell (a := ⟨cb, 1, none⟩) (lt_of_cell h.c1) (fun e => a1 e.symm)).trans h.c1, (t.cell (a := ⟨cb, 2, none⟩) (lt_of_cell h.c2) (fun e => a1 e.symm)).trans h.c2, h.mp.turned t (fun e => a2 e.symm), fun s hs => ?_, h.inj, h.ap, h.ne⟩
  by_cases e : s.2 = b
  · rw [e, updR_same]; exact hr
  · rw [updR_other _ _ e]; exact (h.row s hs).turned t e

theorem slabNew_none (per : Int) : Calls Tryd.prog 55 #[.pointer none, .int .i64 per] w fun e w' => e = .returned (.tuple #[.pointer none, .iface 40 (.int .i64 7)]) ∧ w = w' := by
  go_enter Tryd.func55, Tryd.ntmps55
  go_wp2_with fail
  go_ret2
  exact ⟨rfl, rfl⟩
theorem slabNew_range (p : Nat) (per : Int) (h : per < 1 ∨ 16 < per) : Calls Tryd.prog 55 #[.pointer (some ⟨p, 0, none⟩), .int .i64 per] w fun e w' => e = .returned (.tuple #[.pointer none, .iface 40 (.int .i64 2)]) ∧ w = w' := by
  rcases h with h | h
  · go_enter Tryd.func55, Tryd.ntmps55
    go_wp2_with fail
    go_ret2
    exact ⟨rfl, rfl⟩
  · have h' : ¬ per < 1 := by omega
    go_enter Tryd.func55, Tryd.ntmps55
    go_wp2_with fail
    go_ret2
    exact ⟨rfl, rfl⟩
def NewSlab (p per : Nat) (w : World) (e : Ending) (w' : World) : Prop :=
  ∃ cb sm, e = .returned (.tuple #[.pointer (some ⟨cb, 0, none⟩), .nilIface]) ∧ SlabIs w' cb sm p per [] (fun _ _ => false) ∧ Turn (fun _ => False) w w' ∧ w.heap.size ≤ cb ∧ w.heap.size ≤ sm
theorem slabNew_is (p per : Nat) (h1 : 1 ≤ per) (h2 : per ≤ 16) : Calls Tryd.prog 55 #[.pointer (some ⟨p, 0, none⟩), .int .i64 per] w (NewSlab p per w) := by
  have hmm := @run_makeMap Tryd.prog
  have h1' : ¬ (per : Int) < 1 := by omega
  have h2' : ¬ (16 : Int) < per := by omega
  go_enter Tryd.func55, Tryd.ntmps55
  go_wp2_with fail
  go_ret2
  have hz : (w.alloc (.map #[] 0)).heap.size = w.heap.size + 1 := World.size_alloc _ _
  refine ⟨w.heap.size + 1, w.heap.size, rfl, ⟨?_, ?_, ?_, (MapIs.made w).turned ((Turn.refl (fun _ => False) _).alloc _) id, fun t ht => (by cases ht), by simp, fun t ht => (by cases ht), by omega⟩, ((Turn.refl _ _).alloc _).alloc _, by omega, Nat.le_refl _⟩
  · rw [← hz]; exact World.cell?_alloc_new _ _ _ _
  · rw [← hz]; exact World.cell?_alloc_new _ _ _ _
  · rw [← hz]; exact World.cell?_alloc_new _ _ _ _
theorem frames_len (h : SlabIs w cb sm p per l B) : Calls Tryd.prog 63 #[.pointer (some ⟨cb, 0, none⟩)] w fun e w' => e = .returned (.int .i64 l.length) ∧ w = w' := by
  have c2 := h.c2
  have HM := hid h.mp
  clear h
  go_enter Tryd.func63, Tryd.ntmps63
  go_wp2_with (at_len; refine wpList_maplen rfl _ 178 3 158 rfl Tryd.underlying178 sm rfl HM.out ?_)
  go_ret
  exact ⟨rfl, rfl⟩
theorem zeroS (w : World) : (zeroValue 158).run Tryd.prog w = .ok (.slice none 0 0) w := by kernel_rfl
def whereS (l : List (Int × Nat)) (per : Nat) (f : Int) : Value := (mget l f).elim (.slice none 0 0) fun b => .slice (some ⟨b, 0, none⟩) per per
theorem lookup_slab (h : SlabIs w cb sm p per l B) (f : Int) : (Instr.lookup 178 (.map (some sm)) (.int .i64 f) false).run Tryd.prog w = .ok (whereS l per f) w := by
  have h1 := h.mp.run_lookup keyI Tryd.underlying178 Tryd.underlying3 (zeroS w) f false
  exact h1
theorem lookok_slab (h : SlabIs w cb sm p per l B) (f : Int) : (Instr.lookup 178 (.map (some sm)) (.int .i64 f) true).run Tryd.prog w = .ok (.tuple #[whereS l per f, .bool (mget l f).isSome]) w := by
  have h1 := h.mp.run_lookup keyI Tryd.underlying178 Tryd.underlying3 (zeroS w) f true
  exact h1

/-- Which things there are: number n is in frame n / per. -/
def ThereB (l : List (Int × Nat)) (B : Nat → Nat → Bool) (per : Nat) (n : Int) : Prop := 0 ≤ n ∧ ∃ b, mget l (n / per) = some b ∧ B b (n % per).toNat = true
theorem slabGive_none (cb : Nat) (n : Int) (h : n < 0) : Calls Tryd.prog 58 #[.pointer (some ⟨cb, 0, none⟩), .int .i64 n] w fun e w' => e = .returned (.iface 40 (.int .i64 7)) ∧ w = w' := by
  go_enter Tryd.func58, Tryd.ntmps58
  go_wp2_with fail
  go_ret
  exact ⟨rfl, rfl⟩
set_option maxRecDepth 100000 in
theorem slabGive_any (h : SlabIs w cb sm p per l B) (h1 : 1 ≤ per) (h2 : per ≤ 16) (n : Nat) (hnb : n < 9223372036854775808) :
    Calls Tryd.prog 58 #[.pointer (some ⟨cb, 0, none⟩), .int .i64 n] w fun e w' =>
      (¬ ThereB l B per n ∧ e = .returned (.iface 40 (.int .i64 7)) ∧ Turn (fun _ => False) w w') ∨
      (∃ b, mget l ((n / per : Nat) : Int) = some b ∧ B b (n % per) = true ∧ e = .returned .nilIface ∧ SlabIs w' cb sm p per l (updR B b (setB (B b) (n % per) false)) ∧ Turn (fun k => k = b) w w') := by
  have H := hid h
  have c1 := h.c1
  have c2 := h.c2
  have hn : ¬ (n : Int) < 0 := by omega
  have hp0 : ¬ ((per : Int) = 0) := by omega
  have hp1 : ¬ (per = 0) := by omega
  have hqle : n / per ≤ n := Nat.div_le_self _ _
  have hq : (n : Int).tdiv per = ((n / per : Nat) : Int) := by
    rw [Int.tdiv_eq_ediv_of_nonneg (by omega)]; simp
  have hm : (n : Int).tmod per = ((n % per : Nat) : Int) := by
    rw [Int.tmod_eq_emod_of_nonneg (by omega)]; simp
  have hm0 : n % per < per := Nat.mod_lt _ (by omega)
  have hm1 : ((n % per : Nat) : Int) < per := by omega
  have hr1 : ((n / per : Nat) : Int) = (n : Int) / per := by simp
  have hr2 : ((n % per : Nat) : Int) = (n : Int) % per := by simp
  obtain ⟨q, hqq⟩ : ∃ q : Nat, n / per = q := ⟨_, rfl⟩
  obtain ⟨r, hrr⟩ : ∃ r : Nat, n % per = r := ⟨_, rfl⟩
  rw [hqq] at hq hr1 hqle
  have hqb : (q : Int) < 9223372036854775808 := by omega
  have hq0 : (0 : Int) ≤ q := by omega
  have hr0 : (0 : Int) ≤ r := by omega
  have hwq : IntKind.i64.wrap q = q := by simp [IntKind.wrap, IntKind.bits, IntKind.signed]; omega
  rw [hrr] at hm hm0 hm1 hr2
  rw [hqq, hrr]
  have hThere : ThereB l B per n ↔ ∃ b, mget l (q : Int) = some b ∧ B b r = true := by
    unfold ThereB
    rw [← hr1, ← hr2, Int.toNat_natCast]
    exact ⟨fun h => h.2, fun h => ⟨by omega, h⟩⟩
  have HTh := hid hThere
  clear hThere hqq hrr hr1 hr2
  have lk := fun k => lookok_slab (h.turned ((Turn.refl (fun _ => False) w).drewN k) (fun _ _ => id)) (q : Int)
  unfold whereS at lk
  cases hb : mget l (q : Int) with
  | none =>
    rw [hb] at lk
    simp only [Option.elim, Option.isSome] at lk
    have hno : ¬ ThereB l B per n := fun h => by
      obtain ⟨b, h1, _⟩ := HTh.out.1 h
      rw [hb] at h1; cases h1
    have HNo := hid hno
    clear h hb hno
    go_enter Tryd.func58, Tryd.ntmps58
    go_wp2_with fail
    go_quiet (fail)
    go_wp2_with fail
    go_ret
    exact .inl ⟨HNo.out, rfl, (Turn.refl _ _).drewN _⟩
  | some b =>
    rw [hb] at lk
    simp only [Option.elim, Option.isSome] at lk
    have hmem := mem_of_mget hb
    have HR := hid (h.row _ hmem)
    have hrc : w.cell? ⟨b, r, none⟩ = some (.bool (B b r)) := (h.row _ hmem).cell r hm0
    have hrf : w.frozen? ⟨b, r, none⟩ = false := (h.row _ hmem).fz r
    cases hv : B b r with
    | false =>
      rw [hv] at hrc
      have hno : ¬ ThereB l B per n := fun h => by
        obtain ⟨b', h1, h2⟩ := HTh.out.1 h
        rw [hb] at h1; cases h1
        rw [hv] at h2; cases h2
      have HNo := hid hno
      clear h hb hno hv hmem
      go_enter Tryd.func58, Tryd.ntmps58
      go_wp2_with fail
      go_quiet (fail)
      go_wp2_with fail
      go_ret
      exact .inl ⟨HNo.out, rfl, (Turn.refl _ _).drewN _⟩
    | true =>
      rw [hv] at hrc
      have HB := hid hb
      have HV := hid hv
      have HM := hid hmem
      clear h hb hv hmem
      go_enter Tryd.func58, Tryd.ntmps58
      go_wp2_with fail
      go_quiet (fail)
      go_wp2_with fail
      go_ret
      have t1 : Turn (fun k => k = b) w ((w.drewN nq).setCell ⟨b, r, none⟩ (.bool false)) := ((Turn.refl _ _).drewN _).setCell ⟨b, r, none⟩ _ fun _ => rfl
      refine .inr ⟨b, rfl, HV.out, rfl, H.out.put HM.out t1 ?_, t1⟩
      exact (HR.out.turned ((Turn.refl (fun _ => False) w).drewN nq) id).set r hm0 false
end
end Go.Proofs.YtiohpmcedfbcgabDoor
