/- Several texts of ours in one, in build order (RefPool, RefGive, RefNew). Conditions: each theorem's own premises. -/
import Derived.Test.YtiohpmcedfbcgabDoorPlaysPlain
import Derived.Deep.LoopGhost
import Derived.Outline
import Derived.Test.YtiohpmcedfbcgabDoorGrow
import Derived.Test.YtiohpmcedfbcgabDoorBuddyGive
import Derived.Deep.RegionLaw
/- The document's pool in memory: what it is, and its Left, and whole. Conditions: each theorem's own premises. -/
namespace Go.Proofs.YtiohpmcedfbcgabDoor
open Go.RowKit
set_option linter.unusedVariables false

theorem between (n lo hi : Int) (w : World) : Calls Tryd.prog 107 #[.int .i64 n, .int .i64 lo, .int .i64 hi] w fun e w' => e = .returned (.bool (decide (lo ≤ n ∧ n ≤ hi))) ∧ w = w' := by
  by_cases h1 : lo ≤ n
  · by_cases h2 : n ≤ hi
    · have e : decide (lo ≤ n ∧ n ≤ hi) = true := decide_eq_true ⟨h1, h2⟩
      rw [e]
      go_enter Tryd.func107, Tryd.ntmps107
      go_wp2
      go_ret
      exact ⟨rfl, rfl⟩
    · have e : decide (lo ≤ n ∧ n ≤ hi) = false := decide_eq_false (fun h => h2 h.2)
      rw [e]
      have h2' : decide (n ≤ hi) = false := decide_eq_false h2
      clear e h2
      go_enter Tryd.func107, Tryd.ntmps107
      go_wp2
      go_ret
      exact ⟨rfl, rfl⟩
  · have e : decide (lo ≤ n ∧ n ≤ hi) = false := decide_eq_false (fun h => h1 h.1)
    rw [e]
    have h1' : decide (lo ≤ n) = false := decide_eq_false h1
    clear e h1
    go_enter Tryd.func107, Tryd.ntmps107
    go_wp2
    go_ret
    exact ⟨rfl, rfl⟩

/-- The document's pool lies at p: which of n frames are free in fb, which blocks are taken in mb. -/
structure RefAt (w : World) (p fb mb cp n : Nat) (g : Bits) (tk : List Bk) : Prop where
  c0 : w.cell? ⟨p, 0, none⟩ = some (.slice (some ⟨fb, 0, none⟩) n cp)
  c1 : w.cell? ⟨p, 1, none⟩ = some (.map (some mb))
  row : ∀ f, f < n → w.cell? ⟨fb, f, none⟩ = some (.bool (g f))
  fz : ∀ f, w.frozen? ⟨fb, f, none⟩ = false
  mp : MapIs w mb (.int .i64) encI (fun n : Nat => Value.int .i64 (n : Int)) tk
  lt : fb < w.heap.size
  ne : p ≠ fb ∧ p ≠ mb ∧ fb ≠ mb
def RefFoot (p fb mb : Nat) (k : Nat) : Prop := k = p ∨ k = fb ∨ k = mb
theorem RefAt.turned {S : Nat → Prop} {w w' : World} {p fb mb cp n : Nat} {g : Bits} {tk : List Bk} (h : RefAt w p fb mb cp n g tk) (t : Turn S w w') (hn : ∀ k, RefFoot p fb mb k → ¬ S k) : RefAt w' p fb mb cp n g tk :=
  ⟨(t.cell (a := ⟨p, 0, none⟩) (lt_of_cell h.c0) (hn p (.inl rfl))).trans h.c0,
   (t.cell (a := ⟨p, 1, none⟩) (lt_of_cell h.c1) (hn p (.inl rfl))).trans h.c1,
   fun f hf => (t.cell (a := ⟨fb, f, none⟩) h.lt (hn fb (.inr (.inl rfl)))).trans (h.row f hf),
   fun f => (t.frozen (a := ⟨fb, f, none⟩) h.lt (hn fb (.inr (.inl rfl)))).trans (h.fz f),
   h.mp.turned t (hn mb (.inr (.inr rfl))), Nat.lt_of_lt_of_le h.lt t.size, h.ne⟩
theorem RefAt.set {w : World} {p fb mb cp n : Nat} {g : Bits} {tk : List Bk} (h : RefAt w p fb mb cp n g tk) (f : Nat) (hf : f < n) (v : Bool) : RefAt (w.setCell ⟨fb, f, none⟩ (.bool v)) p fb mb cp n (fun j => if j = f then v else g j) tk := by
  have t : Turn (fun j => j = fb) w (w.setCell ⟨fb, f, none⟩ (.bool v)) := (Turn.refl _ _).setCell _ _ (fun _ => rfl)
  refine ⟨(t.cell (a := ⟨p, 0, none⟩) (lt_of_cell h.c0) h.ne.1).trans h.c0, (t.cell (a := ⟨p, 1, none⟩) (lt_of_cell h.c1) h.ne.1).trans h.c1, fun j hj => ?_, fun j => ?_, h.mp.turned t (fun e => h.ne.2.2 e.symm), Nat.lt_of_lt_of_le h.lt t.size, h.ne⟩
  · by_cases e : j = f
    · subst e
      rw [if_pos rfl]
      exact World.cell?_setCell_same _ _ _ (h.row j hj)
    · rw [if_neg e, World.cell?_setCell_other _ _ _ _ (by simp)]
      exact h.row j hj
  · rw [World.frozen?_setCell]
    exact h.fz j
theorem RefAt.mapped {w w1 : World} {p fb mb cp n : Nat} {g : Bits} {tk : List Bk} (h : RefAt w p fb mb cp n g tk) (t : Turn (fun k => k = mb) w w1) (m : List Bk) (hm : MapIs w1 mb (.int .i64) encI (fun n : Nat => Value.int .i64 (n : Int)) m) : RefAt w1 p fb mb cp n g m :=
  ⟨(t.cell (a := ⟨p, 0, none⟩) (lt_of_cell h.c0) h.ne.2.1).trans h.c0,
   (t.cell (a := ⟨p, 1, none⟩) (lt_of_cell h.c1) h.ne.2.1).trans h.c1,
   fun f hf => (t.cell (a := ⟨fb, f, none⟩) h.lt h.ne.2.2).trans (h.row f hf),
   fun f => (t.frozen (a := ⟨fb, f, none⟩) h.lt h.ne.2.2).trans (h.fz f),
   hm, Nat.lt_of_lt_of_le h.lt t.size, h.ne⟩

set_option maxRecDepth 100000 in
theorem refLeft_is {w : World} {p fb mb cp n : Nat} {g : Bits} {tk : List Bk} (h : RefAt w p fb mb cp n g tk) (hn : n ≤ 256) :
    Calls Tryd.prog 29 #[.pointer (some ⟨p, 0, none⟩)] w fun e w' => e = .returned (.int .i64 (cntFree n g)) ∧ w = w' := by
  have H := hid h
  have c0 := h.c0
  clear h
  go_enter Tryd.func29, Tryd.ntmps29
  go_wp2_with fail
  go_loop [3, 11] (fun c i => ∃ j : Nat, j ≤ n ∧ i = .int .i64 j ∧ c = .int .i64 (cntFree j g)) (fun _ i => n - (intOf i).toNat)
  case atStart => exact ⟨0, Nat.zero_le _, rfl, rfl⟩
  case round =>
    obtain ⟨j, hj, rfl, rfl⟩ := hrel
    by_cases hlt : j < n
    · have hlt' : (j : Int) < n := by omega
      have hc := H.out.row j hlt
      have hcl := cntFree_le j g
      cases hg : g j with
      | true =>
        rw [hg] at hc
        have hm := cntFree_more j g
        rw [hg, if_pos rfl] at hm
        have HM := hid hm
        clear hm hg
        go_wp2_with fail
        go_round
        case rel => exact ⟨j + 1, by omega, by go_num, by rw [HM.out]; go_num⟩
        case measure => simp [intOf]; omega
      | false =>
        rw [hg] at hc
        have hm := cntFree_more j g
        rw [hg, if_neg (by simp)] at hm
        have HM := hid hm
        clear hm hg
        go_wp2_with fail
        go_round
        case rel => exact ⟨j + 1, by omega, by go_num, by rw [HM.out]⟩
        case measure => simp [intOf]; omega
    · obtain rfl : j = n := by omega
      go_wp2_with fail
      go_ret
      exact ⟨rfl, rfl⟩

def WholeRes (n : Nat) (g : Bits) (b : Int) (o : Nat) (w : World) (e : Ending) (w' : World) : Prop :=
  w = w' ∧ ((e = .returned (.bool true) ∧ AllFree n g b o) ∨ (e = .returned (.bool false) ∧ ¬ AllFree n g b o))
set_option maxRecDepth 100000 in
theorem whole_is {w : World} {p fb mb cp n : Nat} {g : Bits} {tk : List Bk} (h : RefAt w p fb mb cp n g tk) (hn : n ≤ 256) (b : Nat) (hb : b ≤ 256) (o : Nat) (ho : o ≤ 6) :
    Calls Tryd.prog 106 #[.pointer (some ⟨p, 0, none⟩), .int .i64 b, .int .i64 o] w (WholeRes n g b o w) := by
  have H := hid h
  have c0 := h.c0
  have hs := wrap_sz64 ⟨o, by omega⟩
  simp only at hs
  have hsp := sz_pos o
  have hsl := sz_le ho
  have ho' : ¬ (o : Int) < 0 := by omega
  clear h
  go_enter Tryd.func106, Tryd.ntmps106
  go_wp2_with fail
  go_loop [7] (fun i => ∃ j : Nat, b ≤ j ∧ (j : Int) ≤ b + sz o ∧ i = .int .i64 j ∧ Hid (∀ f : Nat, b ≤ f → f < j → f < n ∧ g f = true)) (fun i => 1000 - (intOf i).toNat)
  case atStart => exact ⟨b, Nat.le_refl _, by omega, rfl, hid (fun f h1 h2 => by omega)⟩
  case round =>
    obtain ⟨j, hbj, hj, rfl, hA⟩ := hrel
    by_cases hlt : (j : Int) < b + sz o
    · by_cases hjn : j < n
      · have hjn' : (j : Int) < n := by omega
        have hc := H.out.row j hjn
        cases hg : g j with
        | true =>
          rw [hg] at hc
          have HG := hid hg
          clear hg
          go_wp2_with fail
          go_round
          case rel => exact ⟨j + 1, by omega, by omega, by go_num, hid (fun f h1 h2 => by
            by_cases e : f = j
            · subst e; exact ⟨hjn, HG.out⟩
            · exact hA.out f h1 (by omega))⟩
          case measure => simp [intOf]; omega
        | false =>
          rw [hg] at hc
          have HG := hid hg
          clear hg
          go_wp2_with fail
          go_ret
          refine ⟨rfl, .inr ⟨rfl, fun h => ?_⟩⟩
          have := (h j (by omega) hlt).2
          rw [HG.out] at this
          cases this
      · have hjn' : (n : Int) ≤ j := by omega
        go_wp2_with fail
        go_ret
        refine ⟨rfl, .inr ⟨rfl, fun h => ?_⟩⟩
        have := (h j (by omega) hlt).1
        omega
    · go_wp2_with fail
      go_ret
      exact ⟨rfl, .inl ⟨rfl, fun f h1 h2 => hA.out f (by omega) (by omega)⟩⟩
end Go.Proofs.YtiohpmcedfbcgabDoor
/- The document's pool: Give. Conditions: each theorem's own premises. -/
namespace Go.Proofs.YtiohpmcedfbcgabDoor
open Go.RowKit
set_option linter.unusedVariables false

set_option maxHeartbeats 1000000 in
theorem refGive_missing {w : World} {p fb mb cp n : Nat} {g : Bits} {tk : List Bk} (h : RefAt w p fb mb cp n g tk) (b o : Int) (hm : mget tk b = none) :
    Calls Tryd.prog 28 #[.pointer (some ⟨p, 0, none⟩), .int .i64 b, .int .i64 o] w fun e w' => e = .returned (.int .i64 7) ∧ w = w' := by
  have hc := h.c1
  have HM := hid h.mp
  have HG := hid hm
  clear h hm
  go_enter Tryd.func28, Tryd.ntmps28
  go_wp2_with (at_lookup; refine wpList_lookok_miss rfl _ _ 33 3 3 rfl Tryd.underlying33 Tryd.underlying3 keyI _ zeroI mb rfl HM.out b rfl HG.out ?_)
  go_ret
  exact ⟨rfl, rfl⟩
set_option maxHeartbeats 1000000 in
theorem refGive_other {w : World} {p fb mb cp n : Nat} {g : Bits} {tk : List Bk} (h : RefAt w p fb mb cp n g tk) (b o : Int) (k : Nat) (hm : mget tk b = some k) (hk : (k : Int) ≠ o) :
    Calls Tryd.prog 28 #[.pointer (some ⟨p, 0, none⟩), .int .i64 b, .int .i64 o] w fun e w' => e = .returned (.int .i64 7) ∧ w = w' := by
  have hc := h.c1
  have HM := hid h.mp
  have HG := hid hm
  have hb : ((k : Int) != o) = true := bne_iff_ne.2 hk
  clear h hm hk
  go_enter Tryd.func28, Tryd.ntmps28
  go_wp2_with (at_lookup; refine wpList_lookok_hit rfl _ _ 33 3 3 rfl Tryd.underlying33 Tryd.underlying3 keyI _ zeroI mb rfl HM.out b rfl k HG.out ?_)
  go_ret
  exact ⟨rfl, rfl⟩

set_option maxHeartbeats 4000000 in
set_option maxRecDepth 100000 in
theorem refGive_ok {w : World} {p fb mb cp n : Nat} {g : Bits} {tk : List Bk} (h : RefAt w p fb mb cp n g tk) (b k : Nat) (hm : mget tk (b : Int) = some k) (hk : k < 7) (hbn : (b : Int) + sz k ≤ n) (hn : n ≤ 256) :
    Calls Tryd.prog 28 #[.pointer (some ⟨p, 0, none⟩), .int .i64 b, .int .i64 k] w fun e w' => e = .returned (.int .i64 0) ∧ RefAt w' p fb mb cp n (fill g b ((b : Int) + sz k) true) (mdel tk (b : Int)) ∧ Turn (fun j => j = fb ∨ j = mb) w w' := by
  have hc := h.c1
  have HM := hid h.mp
  have HG := hid hm
  have H := hid h
  have hne : ((k : Int) != k) = false := by simp
  have hs := wrap_sz64 ⟨k, hk⟩
  simp only at hs
  have hsp := sz_pos k
  have hsl := sz_le (k := k) (by omega)
  have hk0 : ¬ (k : Int) < 0 := by omega
  clear h hm
  go_enter Tryd.func28, Tryd.ntmps28
  go_wp2_with (first | (at_lookup; refine wpList_lookok_hit rfl _ _ 33 3 3 rfl Tryd.underlying33 Tryd.underlying3 keyI _ zeroI mb rfl HM.out b rfl k HG.out ?_) | (at_delete; refine wpList_mapdel rfl _ _ 33 3 3 rfl Tryd.underlying33 Tryd.underlying3 keyI mb rfl HM.out b rfl ?_; intro w1 hm1 t1))
  have HR1 := hid (H.out.mapped t1 _ hm1)
  have HT1 := hid t1
  clear t1 hm1 HM hc
  go_loopw [9] (fun i wr => ∃ f : Nat, b ≤ f ∧ (f : Int) ≤ b + sz k ∧ i = .int .i64 f ∧ Hid (RefAt wr p fb mb cp n (fill g b f true) (mdel tk (b : Int))) ∧ Hid (Turn (fun j => j = fb ∨ j = mb) w wr)) (fun i _ => 1000 - (intOf i).toNat)
  case atStart => exact ⟨b, Nat.le_refl _, by omega, rfl, hid (by rw [fill_start]; exact HR1.out), hid (HT1.out.mono fun _ _ e => .inr e)⟩
  case round =>
    clear HR1 HT1
    obtain ⟨f, hbf, hf, rfl, hR, hT⟩ := hrel
    by_cases hlt : (f : Int) < b + sz k
    · have hfn : (f : Int) < n := by omega
      have hfn' : f < n := by omega
      have c0 := hR.out.c0
      have cf := hR.out.row f hfn'
      have zf := hR.out.fz f
      go_wp2_with fail
      go_roundw
      case rel => exact ⟨f + 1, by omega, by omega, by go_num, hid (by
        have h1 := hR.out.set f hfn' true
        have e : (((f + 1 : Nat)) : Int) = (f : Int) + 1 := by omega
        rw [e, fill_more g b f true (by omega)]
        exact h1), hid (hT.out.setCell _ _ (fun _ => .inl rfl))⟩
      case measure => simp [intOf]; omega
    · have hfe : (f : Int) = b + sz k := by omega
      go_wp2_with fail
      go_ret
      exact ⟨rfl, by rw [← hfe]; exact hR.out, hT.out⟩
end Go.Proofs.YtiohpmcedfbcgabDoor
/- The document's pool is made: all frames free. Slices of bools. Conditions: each theorem's own premises. -/
namespace Go.Proofs.YtiohpmcedfbcgabDoor
open Go.RowKit
set_option linter.unusedVariables false

/-- v is a slice of the bools xs, in a block of its own. -/
def BoolsAt (w : World) (v : Value) (xs : List Bool) : Prop := w.ownsRow 0 4 1 v xs.length (xs.map (Value.bool))

theorem BoolsAt.shape {w : World} {v : Value} {xs : List Bool} (h : BoolsAt w v xs) : (v = .slice none 0 0 ∧ xs = []) ∨ ∃ g cap, v = .slice (some ⟨g, 0, none⟩) xs.length cap ∧ xs.length ≤ cap ∧ cap ≤ maxLen ∧ g < w.heap.size := by
  obtain ⟨_, h0 | ⟨g, cap, cur, rfl, _, hg, h1, h2, _⟩⟩ := h
  · exact .inl ⟨h0.1, List.length_eq_zero_iff.1 h0.2⟩
  · exact .inr ⟨g, cap, rfl, h1, h2, (Array.getElem?_eq_some_iff.1 hg).1⟩
theorem BoolsAt.cell {w : World} {g cap : Nat} {xs : List Bool} (h : BoolsAt w (.slice (some ⟨g, 0, none⟩) xs.length cap) xs) (j : Nat) (x : Bool) (hj : xs[j]? = some x) : w.cell? ⟨g, j, none⟩ = some (.bool x) := by
  have hl := (List.getElem?_eq_some_iff.1 hj).1
  rw [World.ownsRow.cellAt h j (by omega), List.getElem?_map, hj]; rfl
theorem BoolsAt.frozen {w : World} {g cap : Nat} {xs : List Bool} (h : BoolsAt w (.slice (some ⟨g, 0, none⟩) xs.length cap) xs) (j : Nat) : w.frozen? ⟨g, j, none⟩ = false := World.ownsRow.frozenAt h j
theorem BoolsAt.turned {S : Nat → Prop} {w w' : World} {v : Value} {xs : List Bool} (h : BoolsAt w v xs) (t : Turn S w w') (hn : ∀ g, v.ownBlock = some g → ¬ S g) : BoolsAt w' v xs := by
  refine ⟨h.1, ?_⟩
  rcases h.2 with h0 | ⟨g, cap, cur, rfl, hb, hg, r⟩
  · exact .inl h0
  · exact .inr ⟨g, cap, cur, rfl, hb, (t.block g (Array.getElem?_eq_some_iff.1 hg).1 (hn g rfl)).trans hg, r⟩

theorem info_bool : (Tryd.prog.info? 4).map (fun i => (i.zero, i.size, i.bytes)) = some (some (.bool false), 1, 1) := by kernel_rfl

theorem BoolsAt.of_row {w : World} {g cap n : Nat} {xs : List Bool} {y : Bool} (h : w.ownsRow 0 4 1 (.slice (some ⟨g, 0, none⟩) n cap) n (xs.map (Value.bool) ++ [.bool y])) (hn : n = xs.length + 1) : BoolsAt w (.slice (some ⟨g, 0, none⟩) (xs.length + 1) cap) (xs ++ [y]) := by
  subst hn
  unfold BoolsAt
  rw [List.length_append, List.length_singleton, List.map_append]
  exact h

theorem step_append_bool {ops : Array Oper} {o : Oper} {a : Act} {w : World} {K : Act → World → Prop} {Q : Exit → Act → World → Prop} {E : Prop}
    (hg : o.guard = none) (s x : Operand) (hop : o.op = Op.call { callee := Callee.builtin Builtin.append, args := #[s, x], argTypes := #[158, 158] })
    (v : Value) (xs : List Bool) (hs : a.eval s = v) (hi : BoolsAt w v xs) (b0 c : Nat) (y : Bool) (hx : a.eval x = .slice (some ⟨b0, 0, none⟩) 1 c) (hc : w.cell? ⟨b0, 0, none⟩ = some (.bool y)) (hl : xs.length ≤ 1000000)
    (hK : ∀ g cap w', BoolsAt w' (.slice (some ⟨g, 0, none⟩) (xs.length + 1) cap) (xs ++ [y]) → Turn (fun j => v.ownBlock = some j) w w' → (v.ownBlock = some g ∨ w.heap.size ≤ g) → K (a.put o.dst (.slice (some ⟨g, 0, none⟩) (xs.length + 1) cap)) w') :
    if Region.wanted o (yielded ops a.tmps) = true then Oper.wp Tryd.prog o a w K Q else E := by
  obtain ⟨i0, hi0, hz0, hz1, hz2⟩ := info_split info_bool
  refine step_append_at hg s x 158 hop 4 i0 (.bool false) 1 1 Tryd.underlying158 hi0 hz0 hz1 hz2 rfl (by decide) v xs.length _ hs hi ⟨b0, 0, none⟩ 1 c [.bool y] hx rfl ?_ ?_ (.inl (by decide)) (by unfold maxLen; omega) (by omega) ?_
  · intro j u hj
    rw [Addr.add_mid]
    cases j with
    | zero => simp at hj; subst hj; exact hc
    | succ j => simp at hj
  · intro u hu; simp at hu; subst hu; rfl
  · intro g cap w' h1 h2 h3
    exact hK g cap w' (BoolsAt.of_row h1 rfl) h2 h3

theorem wpList_append_bool {ops : Array Oper} {rest : List Oper} {o : Oper} {a : Act} {w : World} {Q : Exit → Act → World → Prop}
    (hg : o.guard = none) (s x : Operand) (hop : o.op = Op.call { callee := Callee.builtin Builtin.append, args := #[s, x], argTypes := #[158, 158] })
    (v : Value) (xs : List Bool) (hs : a.eval s = v) (hi : BoolsAt w v xs) (b0 c : Nat) (y : Bool) (hx : a.eval x = .slice (some ⟨b0, 0, none⟩) 1 c) (hc : w.cell? ⟨b0, 0, none⟩ = some (.bool y)) (hl : xs.length ≤ 1000000)
    (hK : ∀ g cap w', BoolsAt w' (.slice (some ⟨g, 0, none⟩) (xs.length + 1) cap) (xs ++ [y]) → Turn (fun j => v.ownBlock = some j) w w' → (v.ownBlock = some g ∨ w.heap.size ≤ g) → wpList Tryd.prog ops Q rest (a.put o.dst (.slice (some ⟨g, 0, none⟩) (xs.length + 1) cap)) w') :
    wpList Tryd.prog ops Q (o :: rest) a w := by
  obtain ⟨i0, hi0, hz0, hz1, hz2⟩ := info_split info_bool
  refine wpList_append_at hg s x 158 hop 4 i0 (.bool false) 1 1 Tryd.underlying158 hi0 hz0 hz1 hz2 rfl (by decide) v xs.length _ hs hi ⟨b0, 0, none⟩ 1 c [.bool y] hx rfl ?_ ?_ (.inl (by decide)) (by unfold maxLen; omega) (by omega) ?_
  · intro j u hj
    rw [Addr.add_mid]
    cases j with
    | zero => simp at hj; subst hj; exact hc
    | succ j => simp at hj
  · intro u hu; simp at hu; subst hu; rfl
  · intro g cap w' h1 h2 h3
    exact hK g cap w' (BoolsAt.of_row h1 rfl) h2 h3

def NewRef (n : Nat) (w : World) (e : Ending) (w' : World) : Prop :=
  ∃ p fb mb cp, e = .returned (.pointer (some ⟨p, 0, none⟩)) ∧ RefAt w' p fb mb cp n (fun _ => true) [] ∧ Turn (fun _ => False) w w' ∧ ∀ k, RefFoot p fb mb k → w.heap.size ≤ k
/-- As far as the frames are made. -/
structure MakingAt (w0 w : World) (p mb : Nat) (v : Value) (bs : List Bool) : Prop where
  c0 : w.cell? ⟨p, 0, none⟩ = some v
  c1 : w.cell? ⟨p, 1, none⟩ = some (.map (some mb))
  fz : w.frozen? ⟨p, 0, none⟩ = false
  row : BoolsAt w v bs
  all : ∀ x ∈ bs, x = true
  mp : MapIs w mb (.int .i64) encI (fun n : Nat => Value.int .i64 (n : Int)) []
  own : ∀ g, v.ownBlock = some g → p < g
  pm : w0.heap.size ≤ mb ∧ mb < p
  turn : Turn (fun _ => False) w0 w
theorem MakingAt.more {w0 w w3 : World} {p mb : Nat} {v : Value} {bs : List Bool} (h : MakingAt w0 w p mb v bs) {o : Obj} {g cap : Nat} (hr : BoolsAt w3 (.slice (some ⟨g, 0, none⟩) (bs.length + 1) cap) (bs ++ [true])) (t : Turn (fun j => v.ownBlock = some j) (w.alloc o) w3) (ho : v.ownBlock = some g ∨ (w.alloc o).heap.size ≤ g) :
    MakingAt w0 (w3.setCell ⟨p, 0, none⟩ (.slice (some ⟨g, 0, none⟩) (bs.length + 1) cap)) p mb (.slice (some ⟨g, 0, none⟩) (bs.length + 1) cap) (bs ++ [true]) := by
  have hp : p < w.heap.size := lt_of_cell h.c0
  have hg : p < g := by
    rcases ho with h1 | h1
    · exact h.own g h1
    · rw [World.size_alloc] at h1; omega
  have tt : Turn (fun j => v.ownBlock = some j) w w3 := ((Turn.refl (fun _ => False) w).alloc o |>.mono (fun _ _ h => h.elim)).trans t
  have np : ¬ v.ownBlock = some p := fun e => Nat.lt_irrefl _ (h.own p e)
  have nm : ¬ v.ownBlock = some mb := fun e => by have := h.own mb e; have := h.pm.2; omega
  have ts : Turn (fun j => j = p) w3 (w3.setCell ⟨p, 0, none⟩ (.slice (some ⟨g, 0, none⟩) (bs.length + 1) cap)) := (Turn.refl _ _).setCell _ _ (fun _ => rfl)
  refine ⟨World.cell?_setCell_same _ _ _ ((tt.cell (a := ⟨p, 0, none⟩) hp np).trans h.c0), ?_, ?_, hr.turned ts (fun g' hg' e => ?_), fun x hx => ?_, (h.mp.turned tt nm).turned ts (fun e => by have := h.pm.2; omega), fun g' hg' => ?_, h.pm, ?_⟩
  · rw [World.cell?_setCell_other _ _ _ _ (by simp)]
    exact (tt.cell (a := ⟨p, 1, none⟩) hp np).trans h.c1
  · rw [World.frozen?_setCell]
    exact (tt.frozen (a := ⟨p, 0, none⟩) hp np).trans h.fz
  · cases hg'; simp only at e; omega
  · rcases List.mem_append.1 hx with h1 | h1
    · exact h.all x h1
    · exact List.mem_singleton.1 h1
  · cases hg'; exact hg
  · have h0 : w0.heap.size ≤ p := by have := h.pm; omega
    refine (h.turn.trans' tt (fun k hk e => ?_)).trans' ts (fun k hk e => by omega)
    have := h.own k e; omega
set_option maxHeartbeats 4000000 in
set_option maxRecDepth 100000 in
theorem refNew_any (n : Nat) (h1 : 1 ≤ n) (h2 : n ≤ 256) (w : World) : Calls Tryd.prog 23 #[.int .i64 n] w (NewRef n w) := by
  have hmm := @run_makeMap Tryd.prog
  go_enter Tryd.func23, Tryd.ntmps23
  go_wp2_with fail
  have hz : (w.alloc (.map #[] 0)).heap.size = w.heap.size + 1 := World.size_alloc _ _
  have hB : ∀ j, ((w.alloc (.map #[] 0)).alloc (.cells #[.slice none 0 0, .map (some w.heap.size)] 160)).cell? ⟨w.heap.size + 1, j, none⟩ = (#[.slice none 0 0, .map (some w.heap.size)] : Array Value)[j]? := fun j => by rw [← hz]; exact World.cell?_alloc_new _ _ _ _
  have HM0 : Hid (MakingAt w ((w.alloc (.map #[] 0)).alloc (.cells #[.slice none 0 0, .map (some w.heap.size)] 160)) (w.heap.size + 1) w.heap.size (.slice none 0 0) []) := hid
    ⟨hB 0, hB 1, by rw [← hz]; simp, World.ownsRow_nil _ _ _ _, fun x hx => (by cases hx), (MapIs.made w).turned ((Turn.refl (fun _ => False) _).alloc _) id, fun g h => (by cases h), ⟨Nat.le_refl _, by omega⟩, ((Turn.refl _ _).alloc _).alloc _⟩
  generalize (w.alloc (.map #[] 0)).alloc (.cells #[.slice none 0 0, .map (some w.heap.size)] 160) = W0 at *
  obtain ⟨p, hp⟩ : ∃ p, w.heap.size + 1 = p := ⟨_, rfl⟩
  rw [hp] at HM0
  rw [hp]
  obtain ⟨mb, hmb⟩ : ∃ mb, w.heap.size = mb := ⟨_, rfl⟩
  have HMb := hid hmb
  rw [hmb] at HM0
  clear hB hz hp hmb
  go_loopw [8] (fun i wr => ∃ (v : Value) (bs : List Bool), bs.length ≤ n ∧ i = .int .i64 bs.length ∧ Hid (MakingAt w wr p mb v bs)) (fun i _ => n - (intOf i).toNat)
  case atStart => exact ⟨_, [], Nat.zero_le _, rfl, HM0⟩
  case round =>
    clear HM0
    obtain ⟨v, bs, hb, rfl, hM⟩ := hrel
    by_cases hlt : bs.length < n
    · have hlt' : (bs.length : Int) < n := by omega
      have hpw : p < wr.heap.size := lt_of_cell hM.out.c0
      have hc0 := hM.out.c0
      obtain ⟨av, capv, hve⟩ : ∃ a c, v = .slice a bs.length c := by
        rcases hM.out.row.shape with ⟨h, h'⟩ | ⟨g, cap, h, _⟩
        · exact ⟨none, 0, by rw [h, h']; rfl⟩
        · exact ⟨_, cap, h⟩
      subst hve
      have HR1 : Hid (BoolsAt (wr.alloc (.cells #[.bool true] 4)) (.slice av bs.length capv) bs) := hid (hM.out.row.turned ((Turn.refl (fun _ => False) _).alloc _) (fun _ _ => id))
      have HC1 : Hid ((wr.alloc (.cells #[.bool true] 4)).cell? ⟨wr.heap.size, 0, none⟩ = some (.bool true)) := hid (by simp)
      have HF1 : Hid (∀ w3, Turn (fun j => (Value.slice av bs.length capv).ownBlock = some j) (wr.alloc (.cells #[.bool true] 4)) w3 → w3.cell? ⟨p, 0, none⟩ = some (.slice av bs.length capv) ∧ w3.frozen? ⟨p, 0, none⟩ = false) := hid (fun w3 t3 => by
        have np : ¬ (Value.slice av bs.length capv).ownBlock = some p := fun e => Nat.lt_irrefl _ (hM.out.own p e)
        have tt := ((Turn.refl (fun _ => False) wr).alloc (.cells #[.bool true] 4) |>.mono (fun _ _ h => h.elim)).trans t3
        exact ⟨(tt.cell (a := ⟨p, 0, none⟩) hpw np).trans hM.out.c0, (tt.frozen (a := ⟨p, 0, none⟩) hpw np).trans hM.out.fz⟩)
      have hll : bs.length ≤ 1000000 := by omega
      go_wp2_with (at_builtin; refine wpList_append_bool rfl _ _ rfl (.slice av bs.length capv) bs rfl HR1.out wr.heap.size 1 true rfl HC1.out hll ?_; intro g3 z3 w3 hi3 t3 ho3; obtain ⟨hc3, hf3⟩ := HF1.out w3 t3; have HI3 := hid hi3; have HT3 := hid t3; have HO3 := hid ho3; clear hi3 t3 ho3)
      go_roundw
      case rel => exact ⟨_, bs ++ [true], by simp; omega, by rw [List.length_append, List.length_singleton]; go_num, hid (hM.out.more HI3.out HT3.out HO3.out)⟩
      case measure => simp [intOf]; omega
    · have hle : bs.length = n := by omega
      have hlt' : ¬ (bs.length : Int) < n := by omega
      go_wp2_with fail
      go_ret
      rcases hM.out.row.shape with ⟨_, h'⟩ | ⟨g, cap, rfl, _, _, hg⟩
      · rw [h'] at hle; simp at hle; omega
      · have hpm := hM.out.pm
        have hpg := hM.out.own g rfl
        have hms := HMb.out
        refine ⟨p, g, mb, cap, rfl, ⟨by rw [← hle]; exact hM.out.c0, hM.out.c1, fun f hf => ?_, fun f => hM.out.row.frozen f, hM.out.mp, hg, by omega⟩, hM.out.turn, fun k hk => ?_⟩
        · have hf' : f < bs.length := by omega
          have hx : bs[f]? = some bs[f] := List.getElem?_eq_getElem hf'
          have := hM.out.row.cell f _ hx
          rw [this, hM.out.all _ (List.mem_of_getElem? hx)]
        · rcases hk with rfl | rfl | rfl <;> omega
end Go.Proofs.YtiohpmcedfbcgabDoor
