/- FramesPlays walked: true, and nothing that was there turns. Conditions: the variable errors.errorType holds what is laid; the argument lies in memory. -/
import Derived.Test.YtiohpmcedfbcgaaDoorFramesNo
import Derived.Test.YtiohpmcedfbcgaaDoorPlace
import Derived.Test.YtiohpmcedfbcgaaDoorMaps
import Derived.Deep.RegionWith
import Derived.Deep.LoopGhost
import Derived.Deep.DeepCutAuto
import Derived.Deep.CutBlock
import Derived.Deep.QuietTactic
import Derived.Outline
namespace Go.Proofs.YtiohpmcedfbcgaaDoor
open Go.RowKit
set_option linter.unusedVariables false

/-- Operations (which, two numbers, a word) lie from off on in block b. -/
def OpsAt (w : World) (b off : Nat) (xs : List (Int × Int × Int × Int)) : Prop :=
  ∀ j x, xs[j]? = some x → w.cell? ⟨b, off + j * 4, none⟩ = some (.int .i64 x.1) ∧ w.cell? ⟨b, off + j * 4 + 1, none⟩ = some (.int .i64 x.2.1) ∧ w.cell? ⟨b, off + j * 4 + 2, none⟩ = some (.int .i64 x.2.2.1) ∧ w.cell? ⟨b, off + j * 4 + 3, none⟩ = some (.int .i64 x.2.2.2)
theorem OpsAt.turned {w w' : World} {b off : Nat} {xs : List (Int × Int × Int × Int)} {S : Nat → Prop} (h : OpsAt w b off xs) (t : Turn S w w') (hb : b < w.heap.size) (hn : ¬ S b) : OpsAt w' b off xs := fun j x hx => by
  obtain ⟨a, c, d, e⟩ := h j x hx
  exact ⟨(t.cell (a := ⟨b, _, none⟩) hb hn).trans a, (t.cell (a := ⟨b, _, none⟩) hb hn).trans c, (t.cell (a := ⟨b, _, none⟩) hb hn).trans d, (t.cell (a := ⟨b, _, none⟩) hb hn).trans e⟩

def encW (g : Nat → Int) : Value := .agg #[.int .i64 (g 0), .int .i64 (g 1), .int .i64 (g 2), .int .i64 (g 3), .int .i64 (g 4), .int .i64 (g 5), .int .i64 (g 6), .int .i64 (g 7)]
def looked (l : List (Int × (Nat → Int))) (f : Int) : Nat → Int := (mget l f).getD fun _ => 0
theorem looked_enc (l : List (Int × (Nat → Int))) (f : Int) : (mget l f).elim (Value.agg noughts) encW = encW (looked l f) := by
  unfold looked
  cases mget l f <;> rfl
theorem zeroW (w : World) : (zeroValue 63).run Tryd.prog w = .ok (.agg noughts) w := by kernel_rfl

section
variable {ops : Array Oper} {rest : List Oper} {o : Oper} {a : Act} {Q : Exit → Act → World → Prop} {w : World}
theorem look_words (hg : o.guard = none) (mo x : Operand) (hop : o.op = .lookup 58 mo x false) (b : Nat) (hm : a.eval mo = .map (some b)) {l : List (Int × (Nat → Int))} (h : MapIs w b (.int .i64) encI encW l) (k : Int) (hx : a.eval x = encI k)
    (hK : wpList Tryd.prog ops Q rest (a.put o.dst (.agg #[.int .i64 (looked l k 0), .int .i64 (looked l k 1), .int .i64 (looked l k 2), .int .i64 (looked l k 3), .int .i64 (looked l k 4), .int .i64 (looked l k 5), .int .i64 (looked l k 6), .int .i64 (looked l k 7)])) w) : wpList Tryd.prog ops Q (o :: rest) a w := by
  cases e : mget l k with
  | none =>
    refine wpList_look_miss hg mo x _ 3 63 hop Tryd.underlying58 Tryd.underlying3 keyI _ zeroW b hm h k hx e ?_
    have := looked_enc l k
    rw [e] at this
    simp only [Option.elim] at this
    rw [this]; exact hK
  | some g =>
    refine wpList_look_hit hg mo x _ 3 63 hop Tryd.underlying58 Tryd.underlying3 keyI _ zeroW b hm h k hx g e ?_
    have := looked_enc l k
    rw [e] at this
    simp only [Option.elim] at this
    rw [this]; exact hK
end

/-- A variable of eight words. -/
structure Eight (w : World) (b : Nat) (g : Nat → Int) : Prop where
  c : ∀ j, j < 8 → w.cell? ⟨b, j, none⟩ = some (.int .i64 (g j))
  f : ∀ j, w.frozen? ⟨b, j, none⟩ = false
theorem Eight.new (w : World) (g : Nat → Int) (t : TypeId) : Eight (w.alloc (.cells #[.int .i64 (g 0), .int .i64 (g 1), .int .i64 (g 2), .int .i64 (g 3), .int .i64 (g 4), .int .i64 (g 5), .int .i64 (g 6), .int .i64 (g 7)] t)) w.heap.size g :=
  ⟨fun j hj => by
    match j, hj with
    | 0, _ => simp
    | 1, _ => simp
    | 2, _ => simp
    | 3, _ => simp
    | 4, _ => simp
    | 5, _ => simp
    | 6, _ => simp
    | 7, _ => simp, fun j => by simp⟩
def put1 (g : Nat → Int) (k : Nat) (v : Int) : Nat → Int := fun j => if j = k then v else g j
theorem Eight.set {w : World} {b : Nat} {g : Nat → Int} (h : Eight w b g) (k : Nat) (hk : k < 8) (v : Int) : Eight (w.setCell ⟨b, k, none⟩ (.int .i64 v)) b (put1 g k v) := by
  refine ⟨fun j hj => ?_, fun j => by rw [World.frozen?_setCell]; exact h.f j⟩
  unfold put1
  by_cases e : j = k
  · subst e; rw [if_pos rfl]; exact World.cell?_setCell_same _ _ _ (h.c j hj)
  · rw [if_neg e, World.cell?_setCell_other _ _ _ _ (by intro e2; injection e2 with _ e3; omega)]; exact h.c j hj
theorem Eight.turned {w w' : World} {b : Nat} {g : Nat → Int} {S : Nat → Prop} (h : Eight w b g) (t : Turn S w w') (hn : ¬ S b) : Eight w' b g :=
  ⟨fun j hj => (t.cell (a := ⟨b, j, none⟩) (show b < _ from lt_of_cell (h.c 0 (by decide))) hn).trans (h.c j hj), fun j => (t.frozen (a := ⟨b, j, none⟩) (show b < _ from lt_of_cell (h.c 0 (by decide))) hn).trans (h.f j)⟩

/-- What the document has is what the memory has. -/
def Agree (n : Nat) (mm : Nat → Nat → Int) (l : List (Int × (Nat → Int))) : Prop := ∀ f k, f < n → k < 8 → mm f k = looked l f k

theorem index_words (g : Nat → Int) (i : Int) (h0 : 0 ≤ i) (h1 : i < 8) (w : World) : (Instr.index 63 (.agg #[.int .i64 (g 0), .int .i64 (g 1), .int .i64 (g 2), .int .i64 (g 3), .int .i64 (g 4), .int .i64 (g 5), .int .i64 (g 6), .int .i64 (g 7)]) (.int .i64 i)).run Tryd.prog w = .ok (.int .i64 (g i.toNat)) w := by
  obtain ⟨k, rfl⟩ := Int.eq_ofNat_of_zero_le h0
  have hk : k < 8 := by omega
  match k, hk with
  | 0, _ => simp [Instr.index, run_underlying Tryd.underlying63, asIntOf, go_sem]
  | 1, _ => simp [Instr.index, run_underlying Tryd.underlying63, asIntOf, go_sem]
  | 2, _ => simp [Instr.index, run_underlying Tryd.underlying63, asIntOf, go_sem]
  | 3, _ => simp [Instr.index, run_underlying Tryd.underlying63, asIntOf, go_sem]
  | 4, _ => simp [Instr.index, run_underlying Tryd.underlying63, asIntOf, go_sem]
  | 5, _ => simp [Instr.index, run_underlying Tryd.underlying63, asIntOf, go_sem]
  | 6, _ => simp [Instr.index, run_underlying Tryd.underlying63, asIntOf, go_sem]
  | 7, _ => simp [Instr.index, run_underlying Tryd.underlying63, asIntOf, go_sem]

theorem lookup_words {w : World} {b : Nat} {l : List (Int × (Nat → Int))} (h : MapIs w b (.int .i64) encI encW l) (k : Int) : (Instr.lookup 58 (.map (some b)) (.int .i64 k) false).run Tryd.prog w = .ok (.agg #[.int .i64 (looked l k 0), .int .i64 (looked l k 1), .int .i64 (looked l k 2), .int .i64 (looked l k 3), .int .i64 (looked l k 4), .int .i64 (looked l k 5), .int .i64 (looked l k 6), .int .i64 (looked l k 7)]) w := by
  have h1 := h.run_lookup keyI Tryd.underlying58 Tryd.underlying3 (zeroW w) k false
  rw [looked_enc l k] at h1
  exact h1

theorem looked_mput (l : List (Int × (Nat → Int))) (k f : Int) (g : Nat → Int) : looked (mput l k g) f = if f = k then g else looked l f := by
  unfold looked
  rw [mget_mput]
  by_cases e : f = k
  · rw [if_pos e, if_pos e]; rfl
  · rw [if_neg e, if_neg e]
theorem Agree.set {n : Nat} {mm : Nat → Nat → Int} {l : List (Int × (Nat → Int))} (h : Agree n mm l) {f : Int} {k : Nat} {v : Int} (hf0 : 0 ≤ f) : Agree n (memSet mm f.toNat k v) (mput l f (put1 (looked l f) k v)) := by
  intro g j hg hj
  rw [looked_mput]
  unfold memSet put1
  by_cases e : (g : Int) = f
  · subst e
    simp only [Int.toNat_natCast, true_and, if_true]
    by_cases e2 : j = k
    · rw [if_pos e2, if_pos e2]
    · rw [if_neg e2, if_neg e2]; exact h g j hg hj
  · rw [if_neg e, if_neg (fun h2 => e (by omega))]; exact h g j hg hj
theorem Agree.zero {n : Nat} {mm : Nat → Nat → Int} {l : List (Int × (Nat → Int))} (h : Agree n mm l) {f : Int} (hf0 : 0 ≤ f) : Agree n (memZero mm f.toNat) (mput l f (fun _ => 0)) := by
  intro g j hg hj
  rw [looked_mput]
  unfold memZero
  by_cases e : (g : Int) = f
  · rw [if_pos e, if_pos (by omega)]
  · rw [if_neg e, if_neg (fun h2 => e (by omega))]; exact h g j hg hj
theorem Agree.copy {n : Nat} {mm : Nat → Nat → Int} {l : List (Int × (Nat → Int))} (h : Agree n mm l) {f t : Int} (hf0 : 0 ≤ f) (ht0 : 0 ≤ t) (ht : t < n) : Agree n (memCopy mm f.toNat t.toNat) (mput l f (looked l t)) := by
  intro g j hg hj
  rw [looked_mput]
  unfold memCopy
  by_cases e : (g : Int) = f
  · rw [if_pos e, if_pos (by omega)]
    have := h t.toNat j (by omega) hj
    rw [this, Int.toNat_of_nonneg ht0]
  · rw [if_neg e, if_neg (fun h2 => e (by omega))]; exact h g j hg hj

set_option maxRecDepth 100000 in
theorem fplays_out (n : Int) (a : Option Addr) (len cap : Nat) (w : World) (hL : Laid w) (h : n < 1 ∨ 256 < n) :
    Calls Tryd.prog 5 #[.int .i64 n, .slice a len cap] w fun e w' => e = .returned (.bool true) ∧ Turn (fun _ => False) w w' := by
  have HN := hid (new_no n w h)
  have HB := hid (bare_errno 2 w hL)
  clear hL
  rcases h with h | h
  · go_enter Tryd.func5, Tryd.ntmps5
    go_wp2_with fail
    refine HN.out.mono ?_
    rintro e w1 ⟨rfl, rfl⟩
    go_wp2_with fail
    refine HB.out.mono ?_
    rintro e w2 ⟨rfl, t2⟩
    have T2 := hid t2
    clear t2
    go_wp2_with fail
    go_ret
    exact ⟨rfl, T2.out⟩
  · have h1 : ¬ n < 1 := by omega
    go_enter Tryd.func5, Tryd.ntmps5
    go_wp2_with fail
    refine HN.out.mono ?_
    rintro e w1 ⟨rfl, rfl⟩
    go_wp2_with fail
    refine HB.out.mono ?_
    rintro e w2 ⟨rfl, t2⟩
    have T2 := hid t2
    clear t2
    go_wp2_with fail
    go_ret
    exact ⟨rfl, T2.out⟩

set_option maxRecDepth 100000 in
theorem fplays_many (n : Int) (a : Option Addr) (len cap : Nat) (w : World) (h1 : 1 ≤ n) (h2 : n ≤ 256) (hm : 60 < len) (hl : len ≤ 9223372036854775807) :
    Calls Tryd.prog 5 #[.int .i64 n, .slice a len cap] w fun e w' => e = .returned (.bool true) ∧ Turn (fun _ => False) w w' := by
  have HN := hid (new_yes n w h1 h2)
  have hm' : (60 : Int) < len := by omega
  have h3 : ¬ n < 1 := by omega
  have h4 : ¬ 256 < n := by omega
  have hnn : ((n.toNat : Int)) = n := Int.toNat_of_nonneg (by omega)
  go_enter Tryd.func5, Tryd.ntmps5
  go_wp2_with fail
  refine HN.out.mono ?_
  rintro e w1 ⟨mb, wb, rfl, hM, hb1, hb2, t1⟩
  have HM := hid hM
  have T1 := hid t1
  clear hM t1
  go_wp2_with fail
  refine (memLen HM.out).mono ?_
  rintro e w2 ⟨rfl, rfl⟩
  go_wp2_with fail
  all_goals go_ret
  all_goals exact ⟨rfl, T1.out⟩

set_option maxHeartbeats 40000000 in
set_option maxRecDepth 100000 in
theorem fplays_few (n : Int) (a : Option Addr) (xs : List (Int × Int × Int × Int)) (cap : Nat) (W : World) (hL : Laid W) (h1 : 1 ≤ n) (h2 : n ≤ 256) (hl : xs.length ≤ 60)
    (hc : xs ≠ [] → ∃ b off, a = some ⟨b, off, none⟩ ∧ OpsAt W b off xs ∧ b < W.heap.size) :
    Calls Tryd.prog 5 #[.int .i64 n, .slice a xs.length cap] W fun e w' => e = .returned (.bool true) ∧ Turn (fun _ => False) W w' := by
  have HN := hid (new_yes n W h1 h2)
  have HC := hid hc
  have HL := hid hL
  have hm' : ¬ (60 : Int) < xs.length := by omega
  have h3 : ¬ n < 1 := by omega
  have h4 : ¬ 256 < n := by omega
  obtain ⟨nn, rfl⟩ := Int.eq_ofNat_of_zero_le (show 0 ≤ n by omega)
  have hmm := @run_makeMap Tryd.prog
  clear hc hL
  go_enter Tryd.func5, Tryd.ntmps5
  go_wp2_with fail
  refine HN.out.mono ?_
  rintro e w1 ⟨mb, wb, rfl, hM, hb1, hb2, t1⟩
  have HM := hid hM
  have T1 := hid t1
  clear hM t1
  go_wp2_with fail
  refine (memLen HM.out).mono ?_
  rintro e w2 ⟨rfl, rfl⟩
  have HM0 : Hid (MapIs (w1.alloc (.map #[] 0)) w1.heap.size (.int .i64) encI encW ([] : List (Int × (Nat → Int)))) := hid (MapIs.made w1)
  have HMm : Hid (MemIs (w1.alloc (.map #[] 0)) mb wb nn (fun _ _ => 0)) := hid (HM.out.turned ((Turn.refl (fun _ => False) w1).alloc _) id id)
  have HT0 : Hid (Turn (fun _ => False) W (w1.alloc (.map #[] 0))) := hid (T1.out.alloc _)
  have hsz : mb < w1.heap.size ∧ wb < w1.heap.size ∧ W.heap.size ≤ w1.heap.size := ⟨HM.out.lt_mb, HM.out.lt_wb, T1.out.size⟩
  have HA0 : Hid (Agree nn (fun _ _ => 0) []) := hid (fun f k _ _ => rfl)
  go_wp2_with fail
  generalize w1.alloc (.map #[] 0) = W1 at *
  generalize w1.heap.size = gb at *
  obtain ⟨hs1, hs2, hs3⟩ := hsz
  clear HM T1 HN
  go_loopg [8] (xs.length) (fun g i wr => ∃ (j : Nat) (mm : Nat → Nat → Int) (l : List (Int × (Nat → Int))), j + g = xs.length ∧ i = .int .i64 j ∧ Hid (MemIs wr mb wb nn mm) ∧ Hid (MapIs wr gb (.int .i64) encI encW l) ∧ Hid (Agree nn mm l) ∧ Hid (Turn (fun _ => False) W wr))
  case atStart => exact ⟨0, _, _, by omega, rfl, HMm, HM0, HA0, HT0⟩
  case round =>
    clear HM0 HMm HT0 HA0
    obtain ⟨j, mm, l, hj, rfl, hM, hG, hA, hT⟩ := hrel
    by_cases hlt : j < xs.length
    · have hlt' : (j : Int) < xs.length := by omega
      obtain ⟨⟨x0, x1, x2, x3⟩, hx⟩ : ∃ x, xs[j]? = some x := ⟨_, List.getElem?_eq_getElem hlt⟩
      obtain ⟨b, off, rfl, hO, hb⟩ := HC.out (by rintro rfl; simp at hlt)
      obtain ⟨d0, d1, d2, d3⟩ := hO.turned hT.out hb id j _ hx
      clear hO hx
      have hp : ∃ pb, pb = wr.heap.size := ⟨_, rfl⟩
      obtain ⟨pb, hpb⟩ := hp
      have T1 : Turn (fun _ => False) wr (wr.alloc (.cells #[.int .i64 x0, .int .i64 x1, .int .i64 x2, .int .i64 x3] 60)) := (Turn.refl _ _).alloc _
      have c0 : (wr.alloc (.cells #[.int .i64 x0, .int .i64 x1, .int .i64 x2, .int .i64 x3] 60)).cell? ⟨pb, 0, none⟩ = some (.int .i64 x0) := by rw [hpb]; simp
      have c1 : (wr.alloc (.cells #[.int .i64 x0, .int .i64 x1, .int .i64 x2, .int .i64 x3] 60)).cell? ⟨pb, 1, none⟩ = some (.int .i64 x1) := by rw [hpb]; simp
      have c2 : (wr.alloc (.cells #[.int .i64 x0, .int .i64 x1, .int .i64 x2, .int .i64 x3] 60)).cell? ⟨pb, 2, none⟩ = some (.int .i64 x2) := by rw [hpb]; simp
      have c3 : (wr.alloc (.cells #[.int .i64 x0, .int .i64 x1, .int .i64 x2, .int .i64 x3] 60)).cell? ⟨pb, 3, none⟩ = some (.int .i64 x3) := by rw [hpb]; simp
      have hgb : gb < pb := by rw [hpb]; exact hG.out.lt
      have hmb : mb < pb := by rw [hpb]; exact hM.out.lt_mb
      have hwb : wb < pb := by rw [hpb]; exact hM.out.lt_wb
      have hWp : W.heap.size ≤ pb := by rw [hpb]; exact hT.out.size
      have HM1 := hid (hM.out.turned T1 id id)
      have HG1 := hid (hG.out.turned T1 id)
      have HT1 := hid (hT.out.trans T1)
      clear hM hG hT T1
      go_upto_region 12 with fail
      rw [← hpb]
      generalize wr.alloc (.cells #[.int .i64 x0, .int .i64 x1, .int .i64 x2, .int .i64 x3] 60) = W2 at *
      clear d0 d1 d2 d3 hpb
      obtain ⟨bf, hbf⟩ : ∃ y : Bool, y = decide (0 ≤ x1 ∧ x1 < nn) := ⟨_, rfl⟩
      obtain ⟨bt, hbt⟩ : ∃ y : Bool, y = decide (0 ≤ x2 ∧ x2 < nn) := ⟨_, rfl⟩
      obtain ⟨bw, hbw⟩ : ∃ y : Bool, y = decide (0 ≤ x2 ∧ x2 < 8) := ⟨_, rfl⟩
      have HBf := hid hbf
      have HBt := hid hbt
      have HBw := hid hbw
      clear hbf hbt hbw
      go_cut [11, 12] (fun f t wx => f = .bool bf ∧ t = .bool bt ∧ Hid (Turn (fun _ => False) W2 wx))
      case first =>
        as_aux_lemma =>
          by_cases a1 : 0 ≤ x1
          · by_cases a2 : 0 ≤ x2
            · go_quiet (fail)
              go_wp2_with fail
              go_meet
              exact ⟨by rw [HBf.out]; exact congrArg Value.bool (decide_eq_decide.2 (by omega)), by rw [HBt.out]; exact congrArg Value.bool (decide_eq_decide.2 (by omega)), hid (Turn.drewN (Turn.refl _ _) _)⟩
            · have a2' : decide (0 ≤ x2) = false := decide_eq_false a2
              go_quiet (fail)
              go_wp2_with fail
              go_meet
              exact ⟨by rw [HBf.out]; exact congrArg Value.bool (decide_eq_decide.2 (by omega)), by rw [HBt.out]; exact congrArg Value.bool (decide_eq_false (by omega)).symm, hid (Turn.drewN (Turn.refl _ _) _)⟩
          · have a1' : decide (0 ≤ x1) = false := decide_eq_false a1
            by_cases a2 : 0 ≤ x2
            · go_quiet (fail)
              go_wp2_with fail
              go_meet
              exact ⟨by rw [HBf.out]; exact congrArg Value.bool (decide_eq_false (by omega)).symm, by rw [HBt.out]; exact congrArg Value.bool (decide_eq_decide.2 (by omega)), hid (Turn.drewN (Turn.refl _ _) _)⟩
            · have a2' : decide (0 ≤ x2) = false := decide_eq_false a2
              go_quiet (fail)
              go_wp2_with fail
              go_meet
              exact ⟨by rw [HBf.out]; exact congrArg Value.bool (decide_eq_false (by omega)).symm, by rw [HBt.out]; exact congrArg Value.bool (decide_eq_false (by omega)).symm, hid (Turn.drewN (Turn.refl _ _) _)⟩
      case rest =>
        obtain ⟨rfl, rfl, ht⟩ := hcut
        replace c0 := (ht.out.cell (a := ⟨pb, 0, none⟩) (lt_of_cell c0) id).trans c0
        replace c1 := (ht.out.cell (a := ⟨pb, 1, none⟩) (lt_of_cell c1) id).trans c1
        replace c2 := (ht.out.cell (a := ⟨pb, 2, none⟩) (lt_of_cell c2) id).trans c2
        replace c3 := (ht.out.cell (a := ⟨pb, 3, none⟩) (lt_of_cell c3) id).trans c3
        have HM := hid (HM1.out.turned ht.out id id)
        have HG := hid (HG1.out.turned ht.out id)
        have HT := hid (HT1.out.trans ht.out)
        clear HM1 HG1 HT1 ht
        go_upto_region 13 with fail
        go_cut [13] (fun f wx => f = .bool bw ∧ wx = wc)
        case first =>
          as_aux_lemma =>
            by_cases a2 : 0 ≤ x2
            · go_wp2_with fail
              go_meet
              exact ⟨by rw [HBw.out]; exact congrArg Value.bool (decide_eq_decide.2 (by omega)), rfl⟩
            · have a2' : decide (0 ≤ x2) = false := decide_eq_false a2
              go_wp2_with fail
              go_meet
              exact ⟨by rw [HBw.out]; exact congrArg Value.bool (decide_eq_false (by omega)).symm, rfl⟩
        case rest =>
          obtain ⟨rfl, rfl⟩ := hcut
          go_upto_region 14 with fail
          go_cut [104] (fun v wx => v = .int .u64 ((IntKind.u64.wrap x0).tmod 4) ∧ wx = wc)
          case first =>
            as_aux_lemma =>
              go_wp2_with fail
              go_meet
              exact ⟨rfl, rfl⟩
          case rest =>
            obtain ⟨rfl, rfl⟩ := hcut
            obtain ⟨op, hop⟩ : ∃ x, (IntKind.u64.wrap x0).tmod 4 = x := ⟨_, rfl⟩
            rw [hop]
            clear hop c0
            have d1 := c1
            have d2 := c2
            go_upto_block 2 with fail
            go_cut [6, 10] (fun er e wx => ((er = .nilIface ∧ e = .int .i64 0) ∨ (er = .iface 34 (.int .i64 2) ∧ e = .int .i64 2)) ∧ ∃ (mm : Nat → Nat → Int) (l : List (Int × (Nat → Int))), Hid (MemIs wx mb wb nn mm) ∧ Hid (MapIs wx gb (.int .i64) encI encW l) ∧ Hid (Agree nn mm l) ∧ Hid (Turn (fun _ => False) W wx) ∧ wx.cell? ⟨pb, 1, none⟩ = some (.int .i64 x1) ∧ Hid (Laid wx))
            case first =>
              as_aux_lemma =>
                have hL1 := HL.out.turned0 HT.out
                have HLw := hid hL1
                have hgw : ¬ gb = wb := by omega
                clear hL1
                by_cases o0 : op = 0
                · subst o0
                  cases bf with
                  | true =>
                    have hf := HBf.out
                    have hf' : 0 ≤ x1 ∧ x1 < nn := of_decide_eq_true hf.symm
                    obtain ⟨f1, f2⟩ := hf'
                    clear hf
                    cases bw with
                    | true =>
                      as_aux_lemma =>
                        have hw := HBw.out
                        have hw' : 0 ≤ x2 ∧ x2 < 8 := of_decide_eq_true hw.symm
                        obtain ⟨g1, g2⟩ := hw'
                        clear hw
                        go_wp2_with fail
                        refine (set_yes HM.out x1 x2 x3 f1 f2 g1 g2).mono ?_
                        rintro e w2 ⟨rfl, hM2, t2⟩
                        replace d1 := (t2.cell (a := ⟨pb, 1, none⟩) (lt_of_cell d1) (by simp only; omega)).trans d1
                        replace d2 := (t2.cell (a := ⟨pb, 2, none⟩) (lt_of_cell d2) (by simp only; omega)).trans d2
                        replace c3 := (t2.cell (a := ⟨pb, 3, none⟩) (lt_of_cell c3) (by simp only; omega)).trans c3
                        have HM2 := hid hM2
                        have HG2 := hid (HG.out.turned t2 hgw)
                        have HT2 := hid (HT.out.trans' t2 (fun k hk e => by omega))
                        clear hM2 t2 c1 c2 HM HG HT HLw
                        have T3 : Turn (fun _ => False) w2 (w2.alloc (.cells #[.int .i64 (looked l x1 0), .int .i64 (looked l x1 1), .int .i64 (looked l x1 2), .int .i64 (looked l x1 3), .int .i64 (looked l x1 4), .int .i64 (looked l x1 5), .int .i64 (looked l x1 6), .int .i64 (looked l x1 7)] 63)) := (Turn.refl _ _).alloc _
                        have HE3 := hid (Eight.new w2 (looked l x1) 63)
                        have e1 := (T3.cell (a := ⟨pb, 1, none⟩) (lt_of_cell d1) id).trans d1
                        have e2 := (T3.cell (a := ⟨pb, 2, none⟩) (lt_of_cell d2) id).trans d2
                        have e3 := (T3.cell (a := ⟨pb, 3, none⟩) (lt_of_cell c3) id).trans c3
                        have HM3 := hid (HM2.out.turned T3 id id)
                        have HG3 := hid (HG2.out.turned T3 id)
                        have HT3 := hid (HT2.out.trans T3)
                        have hp2 : pb < w2.heap.size := lt_of_cell d1
                        have hWs : W.heap.size ≤ w2.heap.size := HT2.out.size
                        have hg2 : gb < w2.heap.size := HG2.out.lt
                        have hm2 : mb < w2.heap.size := HM2.out.lt_mb
                        have hw2 : wb < w2.heap.size := HM2.out.lt_wb
                        clear T3
                        go_upto_region 27 with (first | (at_lookup; refine look_words rfl _ _ rfl gb rfl HG2.out x1 rfl ?_))
                        obtain ⟨ab, hab⟩ : ∃ x, w2.heap.size = x := ⟨_, rfl⟩
                        rw [hab] at HE3 hp2 hWs hg2 hm2 hw2
                        rw [hab]
                        clear hab HM2 HG2 HT2 d1 d2 c3
                        generalize w2.alloc (.cells #[.int .i64 (looked l x1 0), .int .i64 (looked l x1 1), .int .i64 (looked l x1 2), .int .i64 (looked l x1 3), .int .i64 (looked l x1 4), .int .i64 (looked l x1 5), .int .i64 (looked l x1 6), .int .i64 (looked l x1 7)] 63) = w3 at *
                        have k0 := HE3.out.c x2.toNat (by omega)
                        have kf := HE3.out.f x2.toNat
                        have T4 : Turn (fun k => k = ab) w3 (w3.setCell ⟨ab, x2.toNat, none⟩ (.int .i64 x3)) := (Turn.refl _ _).setCell _ _ (fun _ => rfl)
                        have HE4 := hid (HE3.out.set x2.toNat (by omega) x3)
                        have d1 := (T4.cell (a := ⟨pb, 1, none⟩) (lt_of_cell e1) (by simp only; omega)).trans e1
                        have HM4 := hid (HM3.out.turned T4 (by omega) (by omega))
                        have HG4 := hid (HG3.out.turned T4 (by omega))
                        have HT4 := hid (HT3.out.trans' T4 (fun k hk e => by omega))
                        clear T4 HM3 HG3 HT3 HE3
                        go_upto_region 28 with fail
                        clear k0 kf e1 e2 e3
                        generalize w3.setCell ⟨ab, x2.toNat, none⟩ (.int .i64 x3) = w4 at *
                        obtain ⟨gg, hgg⟩ : ∃ gg, put1 (looked l x1) x2.toNat x3 = gg := ⟨_, rfl⟩
                        have HGG := hid hgg
                        rw [hgg] at HE4
                        clear hgg
                        have k0 := HE4.out.c 0 (by decide)
                        have k1 := HE4.out.c 1 (by decide)
                        have k2 := HE4.out.c 2 (by decide)
                        have k3 := HE4.out.c 3 (by decide)
                        have k4 := HE4.out.c 4 (by decide)
                        have k5 := HE4.out.c 5 (by decide)
                        have k6 := HE4.out.c 6 (by decide)
                        have k7 := HE4.out.c 7 (by decide)
                        go_wp2_with (at_mapUpdate; refine wpList_mapput rfl _ _ _ 58 3 63 rfl Tryd.underlying58 Tryd.underlying3 keyI gb rfl HG4.out x1 rfl gg rfl ?_; intro w5 hm5 t5; have HG5 := hid hm5; have HT5 := hid t5; clear hm5 t5)
                        go_meet
                        refine ⟨.inl ⟨rfl, rfl⟩, _, _, hid (HM4.out.turned HT5.out (by omega) (by omega)), HG5, hid ?_, hid (HT4.out.trans' HT5.out (fun k hk e => by omega)), (HT5.out.cell (a := ⟨pb, 1, none⟩) (lt_of_cell d1) (by simp only; omega)).trans d1, hid (HL.out.turned0 (HT4.out.trans' HT5.out (fun k hk e => by omega)))⟩
                        rw [← HGG.out]
                        exact hA.out.set f1
                    | false =>
                      as_aux_lemma =>
                        have hw := HBw.out
                        have hw' : ¬ (0 ≤ x2 ∧ x2 < 8) := of_decide_eq_false hw.symm
                        have HS := hid (set_no HM.out x1 x2 x3 (by omega))
                        clear hw hw'
                        go_wp2_with fail
                        refine (HS.out).mono ?_
                        rintro e w2 ⟨rfl, rfl⟩
                        go_wp2_with fail
                        go_meet
                        exact ⟨.inr ⟨rfl, rfl⟩, mm, l, HM, HG, hA, HT, c1, HLw⟩
                  | false =>
                    have hf := HBf.out
                    have hf' : ¬ (0 ≤ x1 ∧ x1 < nn) := of_decide_eq_false hf.symm
                    have HS := hid (set_no HM.out x1 x2 x3 (by omega))
                    clear hf hf'
                    go_wp2_with fail
                    refine (HS.out).mono ?_
                    rintro e w2 ⟨rfl, rfl⟩
                    go_wp2_with fail
                    go_meet
                    exact ⟨.inr ⟨rfl, rfl⟩, mm, l, HM, HG, hA, HT, c1, HLw⟩
                · have o0' : (op == 0) = false := by simp [o0]
                  by_cases o1 : op = 1
                  · subst o1
                    clear o0 o0'
                    cases bf with
                    | true =>
                      as_aux_lemma =>
                        have hf := HBf.out
                        have hf' : 0 ≤ x1 ∧ x1 < nn := of_decide_eq_true hf.symm
                        obtain ⟨f1, f2⟩ := hf'
                        clear hf
                        go_wp2_with fail
                        refine (zero_yes HM.out x1 f1 f2).mono ?_
                        rintro e w2 ⟨rfl, hM2, t2⟩
                        replace d1 := (t2.cell (a := ⟨pb, 1, none⟩) (lt_of_cell d1) (by simp only; omega)).trans d1
                        have HM4 := hid hM2
                        have HG4 := hid (HG.out.turned t2 hgw)
                        have HT4 := hid (HT.out.trans' t2 (fun k hk e => by omega))
                        clear hM2 t2 c1 c2 c3 d2 HM HG HT HLw
                        go_wp2_with (at_mapUpdate; refine wpList_mapput rfl _ _ _ 58 3 63 rfl Tryd.underlying58 Tryd.underlying3 keyI gb rfl HG4.out x1 rfl (fun _ => 0) rfl ?_; intro w5 hm5 t5; have HG5 := hid hm5; have HT5 := hid t5; clear hm5 t5)
                        go_meet
                        exact ⟨.inl ⟨rfl, rfl⟩, _, _, hid (HM4.out.turned HT5.out (by omega) (by omega)), HG5, hid (hA.out.zero f1), hid (HT4.out.trans' HT5.out (fun k hk e => by omega)), (HT5.out.cell (a := ⟨pb, 1, none⟩) (lt_of_cell d1) (by simp only; omega)).trans d1, hid (HL.out.turned0 (HT4.out.trans' HT5.out (fun k hk e => by omega)))⟩
                    | false =>
                      as_aux_lemma =>
                        have hf := HBf.out
                        have hf' : ¬ (0 ≤ x1 ∧ x1 < nn) := of_decide_eq_false hf.symm
                        have HS := hid (zero_no HM.out x1 hf')
                        clear hf hf'
                        go_wp2_with fail
                        refine (HS.out).mono ?_
                        rintro e w2 ⟨rfl, rfl⟩
                        go_wp2_with fail
                        go_meet
                        exact ⟨.inr ⟨rfl, rfl⟩, mm, l, HM, HG, hA, HT, c1, HLw⟩
                  · have o1' : (op == 1) = false := by simp [o1]
                    by_cases o2 : op = 2
                    · subst o2
                      clear o0 o0' o1 o1'
                      cases bf with
                      | true =>
                        have hf := HBf.out
                        have hf' : 0 ≤ x1 ∧ x1 < nn := of_decide_eq_true hf.symm
                        obtain ⟨f1, f2⟩ := hf'
                        clear hf
                        cases bt with
                        | true =>
                          as_aux_lemma =>
                            have hw := HBt.out
                            have hw' : 0 ≤ x2 ∧ x2 < nn := of_decide_eq_true hw.symm
                            obtain ⟨g1, g2⟩ := hw'
                            clear hw
                            go_wp2_with fail
                            refine (copy_yes HM.out x1 x2 f1 f2 g1 g2).mono ?_
                            rintro e w2 ⟨rfl, hM2, t2⟩
                            replace d1 := (t2.cell (a := ⟨pb, 1, none⟩) (lt_of_cell d1) (by simp only; omega)).trans d1
                            replace d2 := (t2.cell (a := ⟨pb, 2, none⟩) (lt_of_cell d2) (by simp only; omega)).trans d2
                            have HM4 := hid hM2
                            have HG4 := hid (HG.out.turned t2 hgw)
                            have HT4 := hid (HT.out.trans' t2 (fun k hk e => by omega))
                            clear hM2 t2 c1 c2 c3 HM HG HT HLw
                            go_wp2_with (first | (at_lookup; refine look_words rfl _ _ rfl gb rfl HG4.out x2 rfl ?_) | (at_mapUpdate; refine wpList_mapput rfl _ _ _ 58 3 63 rfl Tryd.underlying58 Tryd.underlying3 keyI gb rfl HG4.out x1 rfl (looked l x2) rfl ?_; intro w5 hm5 t5; have HG5 := hid hm5; have HT5 := hid t5; clear hm5 t5))
                            go_meet
                            exact ⟨.inl ⟨rfl, rfl⟩, _, _, hid (HM4.out.turned HT5.out (by omega) (by omega)), HG5, hid (hA.out.copy f1 g1 g2), hid (HT4.out.trans' HT5.out (fun k hk e => by omega)), (HT5.out.cell (a := ⟨pb, 1, none⟩) (lt_of_cell d1) (by simp only; omega)).trans d1, hid (HL.out.turned0 (HT4.out.trans' HT5.out (fun k hk e => by omega)))⟩
                        | false =>
                          as_aux_lemma =>
                            have hw := HBt.out
                            have hw' : ¬ (0 ≤ x2 ∧ x2 < nn) := of_decide_eq_false hw.symm
                            have HS := hid (copy_no HM.out x1 x2 (by omega))
                            clear hw hw'
                            go_wp2_with fail
                            refine (HS.out).mono ?_
                            rintro e w2 ⟨rfl, rfl⟩
                            go_wp2_with fail
                            go_meet
                            exact ⟨.inr ⟨rfl, rfl⟩, mm, l, HM, HG, hA, HT, c1, HLw⟩
                      | false =>
                        as_aux_lemma =>
                          have hf := HBf.out
                          have hf' : ¬ (0 ≤ x1 ∧ x1 < nn) := of_decide_eq_false hf.symm
                          have HS := hid (copy_no HM.out x1 x2 (by omega))
                          clear hf hf'
                          go_wp2_with fail
                          refine (HS.out).mono ?_
                          rintro e w2 ⟨rfl, rfl⟩
                          go_wp2_with fail
                          go_meet
                          exact ⟨.inr ⟨rfl, rfl⟩, mm, l, HM, HG, hA, HT, c1, HLw⟩
                    · have o2' : (op == 2) = false := by simp [o2]
                      cases bf with
                      | true =>
                        have hf := HBf.out
                        have hf' : 0 ≤ x1 ∧ x1 < nn := of_decide_eq_true hf.symm
                        obtain ⟨f1, f2⟩ := hf'
                        clear hf
                        cases bw with
                        | true =>
                          as_aux_lemma =>
                            have hw := HBw.out
                            have hw' : 0 ≤ x2 ∧ x2 < 8 := of_decide_eq_true hw.symm
                            obtain ⟨g1, g2⟩ := hw'
                            clear hw
                            have hq := get_yes HM.out x1 x2 f1 f2 g1 g2
                            have ha := hA.out x1.toNat x2.toNat (by omega) (by omega)
                            rw [Int.toNat_of_nonneg f1] at ha
                            rw [ha] at hq
                            have HS := hid hq
                            have ix := index_words (looked l x1) x2 g1 g2
                            clear hq ha
                            go_wp2_with fail
                            refine HS.out.mono ?_
                            rintro e w2 ⟨rfl, rfl⟩
                            go_wp2_with (at_lookup; refine look_words rfl _ _ rfl gb rfl HG.out x1 rfl ?_)
                            go_meet
                            exact ⟨.inl ⟨rfl, rfl⟩, mm, l, HM, HG, hA, HT, c1, HLw⟩
                        | false =>
                          as_aux_lemma =>
                            have hw := HBw.out
                            have hw' : ¬ (0 ≤ x2 ∧ x2 < 8) := of_decide_eq_false hw.symm
                            have HS := hid (get_no HM.out x1 x2 (by omega))
                            clear hw hw'
                            go_wp2_with fail
                            refine (HS.out).mono ?_
                            rintro e w2 ⟨rfl, rfl⟩
                            go_wp2_with fail
                            go_meet
                            exact ⟨.inr ⟨rfl, rfl⟩, mm, l, HM, HG, hA, HT, c1, HLw⟩
                      | false =>
                        as_aux_lemma =>
                          have hf := HBf.out
                          have hf' : ¬ (0 ≤ x1 ∧ x1 < nn) := of_decide_eq_false hf.symm
                          have HS := hid (get_no HM.out x1 x2 (by omega))
                          clear hf hf'
                          go_wp2_with fail
                          refine (HS.out).mono ?_
                          rintro e w2 ⟨rfl, rfl⟩
                          go_wp2_with fail
                          go_meet
                          exact ⟨.inr ⟨rfl, rfl⟩, mm, l, HM, HG, hA, HT, c1, HLw⟩
            case rest =>
              obtain ⟨hr, mm2, l2, HM2, HG2, HA2, HT2, e1, HL2⟩ := hcut
              clear HM HG hA HT c1 c2 c3 d1 d2
              go_upto_region 41 with fail
              go_cut [200] (fun v wx => v = .bool false ∧ Hid (Turn (fun _ => False) wc wx))
              case first =>
                as_aux_lemma =>
                  rcases hr with ⟨rfl, rfl⟩ | ⟨rfl, rfl⟩
                  · go_wp2_with fail
                    refine (bare_nil _).mono ?_
                    rintro e w2 ⟨rfl, t2⟩
                    have T2 := hid t2
                    clear t2
                    go_wp2_with fail
                    go_meet
                    exact ⟨rfl, T2⟩
                  · go_wp2_with fail
                    refine (bare_errno 2 _ HL2.out).mono ?_
                    rintro e w2 ⟨rfl, t2⟩
                    have T2 := hid t2
                    clear t2
                    go_wp2_with fail
                    go_meet
                    exact ⟨rfl, T2⟩
              case rest =>
                obtain ⟨rfl, ht⟩ := hcut
                clear hr
                replace e1 := (ht.out.cell (a := ⟨pb, 1, none⟩) (lt_of_cell e1) id).trans e1
                replace HM2 := hid (HM2.out.turned ht.out id id)
                replace HG2 := hid (HG2.out.turned ht.out id)
                replace HT2 := hid (HT2.out.trans ht.out)
                clear ht HL2
                obtain ⟨go, hgo⟩ : ∃ x, gk = x := ⟨_, rfl⟩
                have HGo := hid hgo
                clear hgo
                go_wp2_with fail
                go_loopg [16] 8 (fun g kv wr => ∃ (kk : Nat), kk + g = 8 ∧ kv = .int .i64 kk ∧ Hid (MemIs wr mb wb nn mm2) ∧ Hid (MapIs wr gb (.int .i64) encI encW l2) ∧ Hid (Turn (fun _ => False) W wr) ∧ wr.cell? ⟨pb, 1, none⟩ = some (.int .i64 x1))
                case atStart => exact ⟨0, by omega, rfl, HM2, HG2, HT2, e1⟩
                case round =>
                  clear HM2 HG2 HT2 e1
                  obtain ⟨kk, hk, rfl, HM, HG, HT, e1⟩ := hrel
                  by_cases hk8 : kk < 8
                  · have hk8' : (kk : Int) < 8 := by omega
                    cases bf with
                    | true =>
                      as_aux_lemma =>
                        have hf := HBf.out
                        have hf' : 0 ≤ x1 ∧ x1 < nn := of_decide_eq_true hf.symm
                        obtain ⟨f1, f2⟩ := hf'
                        have hk0 : (0 : Int) ≤ kk := by omega
                        have hq := get_yes HM.out x1 kk f1 f2 hk0 hk8'
                        have ha := HA2.out x1.toNat kk (by omega) hk8
                        rw [Int.toNat_of_nonneg f1] at ha
                        rw [Int.toNat_natCast, ha] at hq
                        have HS := hid hq
                        have ix := index_words (looked l2 x1) kk hk0 hk8'
                        rw [Int.toNat_natCast] at ix
                        clear hf hq ha
                        go_wp2_with fail
                        refine HS.out.mono ?_
                        rintro e w2 ⟨rfl, rfl⟩
                        have lk := lookup_words HG.out x1
                        go_wp2_with fail
                        go_roundg (gk - 1)
                        case measure => omega
                        case rel => exact ⟨kk + 1, by omega, by go_num, HM, HG, HT, e1⟩
                    | false =>
                      as_aux_lemma =>
                        go_wp2_with fail
                        have hgo := HGo.out
                        go_roundg (go - 1)
                        case measure => omega
                        case rel => exact ⟨j + 1, mm2, l2, by omega, by go_num, HM, HG, HA2, HT⟩
                  · have hk8' : ¬ (kk : Int) < 8 := by omega
                    go_wp2_with fail
                    have hgo := HGo.out
                    go_roundg (go - 1)
                    case measure => omega
                    case rel => exact ⟨j + 1, mm2, l2, by omega, by go_num, HM, HG, HA2, HT⟩
    · go_wp2_with fail
      all_goals go_ret
      all_goals exact ⟨rfl, hT.out⟩
end Go.Proofs.YtiohpmcedfbcgaaDoor
