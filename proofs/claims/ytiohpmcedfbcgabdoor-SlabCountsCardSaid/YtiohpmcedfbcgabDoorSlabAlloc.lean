/- Several texts of ours in one, in build order (SlabAlloc, SlabReap). Conditions: each theorem's own premises. -/
import Derived.Test.YtiohpmcedfbcgabDoorSlabBoth
import Derived.Deep.RegionWith
import Derived.Deep.RegionHeld3
import Derived.Deep.LoopGhost
import Derived.Deep.DeepCutAuto
import Derived.Deep.CutBlock
import Derived.Outline
import Derived.Deep.OwnRows
/- Package slab: Alloc. Conditions: each theorem's own premises. -/
namespace Go.Proofs.YtiohpmcedfbcgabDoor
open Go.RowKit
set_option linter.unusedVariables false

def pickS (l : List (Int × Nat)) (B : Nat → Nat → Bool) (per : Nat) (fs : List Int) (b : Int) : Int := pickF (fun f => hasB (rowOf l B f) per false) (fun f => hasB (rowOf l B f) per true) fs b
theorem pickS_full {l : List (Int × Nat)} {B : Nat → Nat → Bool} {per : Nat} {f : Int} {fs : List Int} {b : Int} (h : hasB (rowOf l B f) per false = false) : pickS l B per (f :: fs) b = pickS l B per fs b := by
  show (if hasB (rowOf l B f) per false then _ else _) = _
  rw [h]; rfl
theorem pickS_some {l : List (Int × Nat)} {B : Nat → Nat → Bool} {per : Nat} {f : Int} {fs : List Int} {b : Int} (h : hasB (rowOf l B f) per false = true) (h2 : hasB (rowOf l B f) per true = true) : pickS l B per (f :: fs) b = f := by
  show (if hasB (rowOf l B f) per false then (if hasB (rowOf l B f) per true then _ else _) else _) = _
  rw [h, h2]; rfl
theorem pickS_none {l : List (Int × Nat)} {B : Nat → Nat → Bool} {per : Nat} {f : Int} {fs : List Int} {b : Int} (h : hasB (rowOf l B f) per false = true) (h2 : hasB (rowOf l B f) per true = false) : pickS l B per (f :: fs) b = pickS l B per fs (if b < 0 then f else b) := by
  show (if hasB (rowOf l B f) per false then (if hasB (rowOf l B f) per true then _ else _) else _) = _
  rw [h, h2]; rfl
/-- Which frame a cache's Alloc picks, or -1. -/
def pickOf (l : List (Int × Nat)) (B : Nat → Nat → Bool) (per : Nat) : Int := pickS l B per (framesOfL l) (-1)

theorem mget_of_frame {l : List (Int × Nat)} {f : Int} (h : f ∈ framesOfL l) : ∃ b, mget l f = some b := by
  have h1 := mem_framesOfL.1 h
  cases e : mget l f with
  | some b => exact ⟨b, rfl⟩
  | none =>
    obtain ⟨t, ht, e2⟩ := List.mem_map.1 h1
    exact absurd e2 (mget_none_iff.1 e t ht)
theorem SAfter.before {w w1 w2 : World} {p mb cb sm per : Nat} {vs : Nat → Value} {l l' : List (Int × Nat)} {q' : Pl} {B' : Nat → Nat → Bool} (h : SAfter p mb vs cb sm per l w1 w2 q' l' B') (t : Turn (fun _ => False) w w1) : SAfter p mb vs cb sm per l w w2 q' l' B' := by
  obtain ⟨vs', a, b, c⟩ := h
  exact ⟨vs', a, (t.mono fun _ _ h => h.elim).trans b, fun k hk => (c k hk).imp id (fun h => Nat.le_trans t.size h)⟩
theorem index_first {w : World} {b k : Nat} {g : Nat → Bool} {v : Bool} (h : RowB w b k g) (hk : k ≤ 1000) (hs : hasB g k v = true) :
    Calls Tryd.prog 120 #[.slice (some ⟨b, 0, none⟩) k k, .bool v] w fun e w' => ∃ j : Nat, e = .returned (.int .i64 j) ∧ j < k ∧ g j = v ∧ (∀ i, i < j → g i ≠ v) ∧ w = w' := by
  refine (index_bools h hk v).mono ?_
  rintro e w' ⟨r, rfl, ⟨rfl, hno⟩ | ⟨j, rfl, hj, hv, hi⟩, rfl⟩
  · obtain ⟨j, hj, hv⟩ := hasB_true.1 hs
    exact absurd hv (hno j hj)
  · exact ⟨j, rfl, hj, hv, hi, rfl⟩

theorem mput_newS {l : List (Int × Nat)} {k : Int} {b : Nat} (h : mget l k = none) : mput l k b = l ++ [(k, b)] := by
  unfold mput
  rw [if_neg (by rw [h]; simp)]
theorem SAfter.trans {w w1 w2 : World} {p mb cb sm per : Nat} {vs vs1 : Nat → Value} {l l1 l' : List (Int × Nat)} {q' : Pl} {B' : Nat → Nat → Bool} (t1 : Turn (Feet p mb vs cb sm l) w w1) (g1 : ∀ k, Feet p mb vs1 cb sm l1 k → Feet p mb vs cb sm l k ∨ w.heap.size ≤ k)
    (h : SAfter p mb vs1 cb sm per l1 w1 w2 q' l' B') : SAfter p mb vs cb sm per l w w2 q' l' B' := by
  obtain ⟨vs', a, b, c⟩ := h
  refine ⟨vs', a, t1.trans' b (fun k hk hf => (g1 k hf).resolve_right (by omega)), fun k hk => ?_⟩
  rcases c k hk with h1 | h1
  · exact g1 k h1
  · exact .inr (Nat.le_trans t1.size h1)
/-- A new frame, without things. -/
theorem SPool.grown {w w2 w3 : World} {p mb cb sm per : Nat} {vs vs2 : Nat → Value} {q : Pl} {fr' : Fr} {l : List (Int × Nat)} {B : Nat → Nat → Bool} {base : Int} {nb : Nat} (h : SPool w p mb vs q cb sm per l B)
    (hp : PoolAt w2 p mb vs2 ⟨q.n, fr', mput q.tk base 0⟩) (hg : Good q.n fr' (mput q.tk base 0)) (hm : mget q.tk base = none) (t2 : Turn (Foot p mb vs) w w2) (g2 : ∀ k, Foot p mb vs2 k → Foot p mb vs k ∨ w.heap.size ≤ k)
    (t3 : Turn (fun k => k = sm) w2 w3) (hnb : nb = w2.heap.size) (hmp : MapIs w3 sm (.int .i64) encI (fun b : Nat => Value.slice (some ⟨b, 0, none⟩) per per) (mput l base nb)) (hr : RowB w3 nb per (fun _ => false)) :
    mget l base = none ∧ SPool w3 p mb vs2 ⟨q.n, fr', mput q.tk base 0⟩ cb sm per (l ++ [(base, nb)]) (updR B nb fun _ => false) ∧ Turn (Feet p mb vs cb sm l) w w3 ∧ ∀ k, Feet p mb vs2 cb sm (l ++ [(base, nb)]) k → Feet p mb vs cb sm l k ∨ w.heap.size ≤ k := by
  have hno : mget l base = none := mget_none_iff.2 (fun t ht e => by
    have := h.held t ht
    rw [e, hm] at this; cases this)
  have hs2 := h.slab.turned t2 h.ap
  have hold : ∀ k, SFoot cb sm l k → k < w.heap.size := h.slab.foot_lt
  have hle := t2.size
  have hsm : SFoot cb sm l sm := .inr (.inl rfl)
  have hfoot : ∀ k, SFoot cb sm (l ++ [(base, nb)]) k → SFoot cb sm l k ∨ k = nb := fun k hk => by
    rcases hk with h1 | h1 | h1
    · exact .inl (.inl h1)
    · exact .inl (.inr (.inl h1))
    · rw [List.map_append, List.mem_append] at h1
      rcases h1 with h1 | h1
      · exact .inl (.inr (.inr h1))
      · exact .inr (by simpa using h1)
  have hcs : cb ≠ sm := h.slab.ne
  have hltb : ∀ t ∈ l, t.2 < w.heap.size := fun t ht => hold t.2 (.inr (.inr (List.mem_map.2 ⟨t, ht, rfl⟩)))
  have hcb : cb < w.heap.size := hold cb (.inl rfl)
  have hsmlt : sm < w.heap.size := hold sm hsm
  refine ⟨hno, ⟨hp.turned t3 (fun k hk e => ?_), hg, h.hn, ⟨?_, ?_, ?_, ?_, fun t ht => ?_, ?_, fun t ht => ?_, hcs⟩, fun t ht => ?_, fun k hk hf => ?_, h.p1, h.p2⟩, ?_, fun k hk => ?_⟩
  · rcases g2 k hk with h1 | h1
    · exact h.ap sm hsm (e ▸ h1)
    · omega
  · exact (t3.cell (a := ⟨cb, 0, none⟩) (lt_of_cell hs2.c0) hcs).trans hs2.c0
  · exact (t3.cell (a := ⟨cb, 1, none⟩) (lt_of_cell hs2.c1) hcs).trans hs2.c1
  · exact (t3.cell (a := ⟨cb, 2, none⟩) (lt_of_cell hs2.c2) hcs).trans hs2.c2
  · rw [← mput_newS hno]; exact hmp
  · rcases List.mem_append.1 ht with h1 | h1
    · have h2 := hltb t h1
      rw [updR_other _ _ (by omega)]
      exact (hs2.row t h1).turned t3 (hs2.ap t h1).2
    · rw [List.mem_singleton.1 h1, updR_same]; exact hr
  · rw [List.map_append, List.nodup_append]
    refine ⟨h.slab.inj, by simp, fun x hx y hy e => ?_⟩
    obtain ⟨t, ht, rfl⟩ := List.mem_map.1 hx
    have h1 := hltb t ht
    simp at hy
    omega
  · rcases List.mem_append.1 ht with h1 | h1
    · exact h.slab.ap t h1
    · rw [List.mem_singleton.1 h1]
      exact ⟨by simp only; omega, by simp only; omega⟩
  · simp only
    rw [mget_mput]
    split
    · rfl
    · rcases List.mem_append.1 ht with h1 | h1
      · exact h.held t h1
      · rename_i hne
        rw [List.mem_singleton.1 h1] at hne
        exact absurd rfl hne
  · rcases hfoot k hk with h1 | rfl
    · rcases g2 k hf with h2 | h2
      · exact h.ap k h1 h2
      · have := hold k h1; omega
    · have := pool_below hp k hf; omega
  · refine Turn.trans' (S := Feet p mb vs cb sm l) (t2.mono fun _ _ h => .inl h) t3 (fun k hk e => ?_)
    subst e
    exact .inr hsm
  · rcases hk with h1 | h1
    · exact (g2 k h1).imp .inl id
    · rcases hfoot k h1 with h2 | rfl
      · exact .inl (.inr h2)
      · exact .inr (by omega)
theorem boolInfo : (Tryd.prog.info? 4).map (fun i => (i.zero, i.size, i.bytes)) = some (some (.bool false), 1, 1) := by kernel_rfl
theorem make_bools (n : Nat) (h : n ≤ 16) (w : World) : (Instr.makeSlice 158 (.int .i64 n) (.int .i64 n)).run Tryd.prog w = .ok (.slice (some ⟨w.heap.size, 0, none⟩) n n) (w.alloc (.cells (madeCells #[.bool false] n) 4)) :=
  run_make_row' (P := Tryd.prog) 158 4 (.bool false) 1 Tryd.underlying158 boolInfo rfl .i64 .i64 n (by omega) (by omega) w
section
variable {p mb cb sm per : Nat} {vs : Nat → Value} {q : Pl} {l : List (Int × Nat)} {B : Nat → Nat → Bool}
def SlabOld (p mb : Nat) (vs : Nat → Value) (q : Pl) (cb sm per : Nat) (l : List (Int × Nat)) (B : Nat → Nat → Bool) (w : World) (e : Ending) (w' : World) : Prop :=
  ∃ b k : Nat, mget l (pickOf l B per) = some b ∧ k < per ∧ B b k = false ∧ (∀ i, i < k → B b i = true) ∧ e = .returned (.tuple #[.int .i64 (pickOf l B per * per + k), .nilIface]) ∧ SAfter p mb vs cb sm per l w w' q l (updR B b (setB (B b) k true))
def SlabFull (p mb : Nat) (vs : Nat → Value) (q : Pl) (cb sm per : Nat) (l : List (Int × Nat)) (B : Nat → Nat → Bool) (w : World) (e : Ending) (w' : World) : Prop :=
  pickOf l B per < 0 ∧ (∀ k, k < 7 → q.fr k = []) ∧ e = .returned (.tuple #[.int .i64 0, .iface 40 (.int .i64 12)]) ∧ Turn (fun _ => False) w w'
def SlabNew (p mb : Nat) (vs : Nat → Value) (q : Pl) (cb sm per : Nat) (l : List (Int × Nat)) (B : Nat → Nat → Bool) (w : World) (e : Ending) (w' : World) : Prop :=
  pickOf l B per < 0 ∧ ∃ (k : Nat) (base : Int) (fr' : Fr) (nb : Nat), k < 7 ∧ (∀ j, j < k → q.fr j = []) ∧ base ∈ q.fr k ∧ (∀ c ∈ q.fr k, base ≤ c) ∧ mget q.tk base = none ∧ mget l base = none ∧ 0 ≤ base ∧ w.heap.size ≤ nb ∧ e = .returned (.tuple #[.int .i64 (base * per), .nilIface]) ∧ SAfter p mb vs cb sm per l w w' ⟨q.n, fr', mput q.tk base 0⟩ (l ++ [(base, nb)]) (updR B nb (setB (fun _ => false) 0 true))

set_option maxHeartbeats 4000000 in
set_option maxRecDepth 100000 in
theorem slabAlloc_any {w : World} (h : SPool w p mb vs q cb sm per l B) : Calls Tryd.prog 57 #[.pointer (some ⟨cb, 0, none⟩)] w fun e w' =>
    SlabOld p mb vs q cb sm per l B w e w' ∨ SlabFull p mb vs q cb sm per l B w e w' ∨ SlabNew p mb vs q cb sm per l B w e w' := by
  have HFr := hid (frames_at h.slab h.wf (by have := h.len; omega))
  have H := hid h
  obtain ⟨f0, hf0⟩ : ∃ f0, pickOf l B per = f0 := ⟨_, rfl⟩
  have HF0 := hid hf0
  clear h hf0
  go_enter Tryd.func57, Tryd.ntmps57
  go_wp2_with fail
  refine HFr.out.mono ?_
  rintro e w1 ⟨v, rfl, hi, hv, t1⟩
  have HI := hid hi
  have HT1 := hid t1
  have c2 := (t1.cell (a := ⟨cb, 2, none⟩) (lt_of_cell H.out.slab.c2) id).trans H.out.slab.c2
  have c0 := (t1.cell (a := ⟨cb, 0, none⟩) (lt_of_cell H.out.slab.c0) id).trans H.out.slab.c0
  have c1 := (t1.cell (a := ⟨cb, 1, none⟩) (lt_of_cell H.out.slab.c1) id).trans H.out.slab.c1
  have H1 := hid (H.out.turned t1 (fun _ _ => id))
  obtain ⟨a, cap, rfl⟩ : ∃ a cap, v = .slice a (framesOfL l).length cap := by
    rcases hi.shape with ⟨rfl, h2⟩ | ⟨g, cap, rfl, _⟩
    · exact ⟨none, 0, by rw [h2]; rfl⟩
    · exact ⟨_, _, rfl⟩
  have hlen : (framesOfL l).length ≤ 256 := by rw [framesOfL_length]; exact H.out.len
  clear hi hv t1 HFr
  go_upto_block 0 with fail
  go_cut [4] (fun v wx => v = .int .i64 f0 ∧ wx = w1)
  case first =>
    go_wp2_with fail
    go_loopg [4, 14] ((framesOfL l).length) (fun gl b i wr => ∃ (j : Nat) (x : Int), j + gl = (framesOfL l).length ∧ b = .int .i64 x ∧ i = .int .i64 j ∧ pickS l B per ((framesOfL l).drop j) x = f0 ∧ wr = w1)
    case atStart => exact ⟨0, -1, by omega, rfl, rfl, HF0.out, rfl⟩
    case round =>
      obtain ⟨j, x, hj, rfl, rfl, hpk, rfl⟩ := hrel
      by_cases hlt : j < (framesOfL l).length
      · have hlt' : (j : Int) < (framesOfL l).length := by omega
        obtain ⟨f, hf⟩ : ∃ f, (framesOfL l)[j]? = some f := ⟨_, List.getElem?_eq_getElem hlt⟩
        have hdrop : (framesOfL l).drop j = f :: (framesOfL l).drop (j + 1) := by
          rw [List.drop_eq_getElem_cons hlt, (List.getElem?_eq_some_iff.1 hf).2]
        obtain ⟨g, hg, hcell⟩ : ∃ g, a = some ⟨g, 0, none⟩ ∧ wr.cell? ⟨g, j, none⟩ = some (.int .i64 f) := by
          rcases HI.out.shape with ⟨h1, h2⟩ | ⟨g, cap, h1, _⟩
          · rw [h2] at hlt; simp at hlt
          · cases h1
            exact ⟨g, rfl, HI.out.cell j f hf⟩
        subst hg
        obtain ⟨b, hb⟩ := mget_of_frame (List.mem_of_getElem? hf)
        have lk := lookup_slab H1.out.slab f
        unfold whereS at lk
        rw [hb] at lk
        simp only [Option.elim] at lk
        have hrow := rowOf_some (B := B) hb
        have HR := H1.out.slab.row _ (mem_of_mget hb)
        have HP2 := H1.out.p2
        have HF := hid (contains_has HR (by omega) false)
        have HT := hid (contains_has HR (by omega) true)
        rw [hdrop] at hpk
        cases r1 : hasB (B b) per false with
        | false =>
          have hn := pickS_full (l := l) (B := B) (per := per) (f := f) (fs := (framesOfL l).drop (j + 1)) (b := x) (by rw [hrow]; exact r1)
          rw [hn] at hpk
          rw [r1] at HF
          have HPk := hid hpk
          clear hpk hn r1 hrow hdrop HR HT hb hf HP2
          go_wp2_with fail
          refine HF.out.mono ?_
          rintro e w2 ⟨rfl, rfl⟩
          go_wp2_with fail
          go_roundg (gk - 1)
          case measure => omega
          case rel => exact ⟨j + 1, x, by omega, rfl, by go_num, HPk.out, rfl⟩
        | true =>
          rw [r1] at HF
          cases r2 : hasB (B b) per true with
          | true =>
            have hn := pickS_some (l := l) (B := B) (per := per) (f := f) (fs := (framesOfL l).drop (j + 1)) (b := x) (by rw [hrow]; exact r1) (by rw [hrow]; exact r2)
            rw [hn] at hpk
            rw [r2] at HT
            have HPk := hid hpk
            clear hpk hn r1 r2 hrow hdrop HR hb hf HP2
            go_wp2_with fail
            refine HF.out.mono ?_
            rintro e w2 ⟨rfl, rfl⟩
            go_wp2_with fail
            refine HT.out.mono ?_
            rintro e w2 ⟨rfl, rfl⟩
            go_wp2_with fail
            go_meet
            exact ⟨by rw [HPk.out], rfl⟩
          | false =>
            have hn := pickS_none (l := l) (B := B) (per := per) (f := f) (fs := (framesOfL l).drop (j + 1)) (b := x) (by rw [hrow]; exact r1) (by rw [hrow]; exact r2)
            rw [hn] at hpk
            rw [r2] at HT
            by_cases hx : x < 0
            · rw [if_pos hx] at hpk
              have HPk := hid hpk
              clear hpk hn r1 r2 hrow hdrop HR hb hf HP2
              go_wp2_with fail
              refine HF.out.mono ?_
              rintro e w2 ⟨rfl, rfl⟩
              go_wp2_with fail
              refine HT.out.mono ?_
              rintro e w2 ⟨rfl, rfl⟩
              go_wp2_with fail
              go_roundg (gk - 1)
              case measure => omega
              case rel => exact ⟨j + 1, f, by omega, rfl, by go_num, HPk.out, rfl⟩
            · rw [if_neg hx] at hpk
              have HPk := hid hpk
              clear hpk hn r1 r2 hrow hdrop HR hb hf HP2
              go_wp2_with fail
              refine HF.out.mono ?_
              rintro e w2 ⟨rfl, rfl⟩
              go_wp2_with fail
              refine HT.out.mono ?_
              rintro e w2 ⟨rfl, rfl⟩
              go_wp2_with fail
              go_roundg (gk - 1)
              case measure => omega
              case rel => exact ⟨j + 1, x, by omega, rfl, by go_num, HPk.out, rfl⟩
      · have hlt' : ¬ (j : Int) < (framesOfL l).length := by omega
        rw [List.drop_eq_nil_of_le (by omega)] at hpk
        have hx : x = f0 := hpk
        subst hx
        go_wp2_with fail
        go_meet
        exact ⟨rfl, rfl⟩
  case rest =>
    obtain ⟨rfl, rfl⟩ := hcut
    clear HI hlen
    by_cases hneg : f0 < 0
    · have HPa : Hid (Calls Tryd.prog 18 #[.pointer (some ⟨p, 0, none⟩), .int .i64 0] wc (AllocRes p mb vs q 0 wc)) := hid (alloc_any H1.out.pool 0 (by omega) H1.out.good H1.out.hn)
      go_wp2_with fail
      refine HPa.out.mono ?_
      rintro e w2 (⟨rfl, rfl, hno⟩ | ⟨k, base, fr', _, hk7, hlow, hbm, hbl, rfl, hmn, hg', ha'⟩)
      · have HNo := hid hno
        clear hno HPa
        go_wp2_with fail
        go_ret2
        right; left
        unfold SlabFull
        rw [HF0.out]
        exact ⟨hneg, fun k hk => HNo.out k (Nat.zero_le _) hk, rfl, HT1.out⟩
      · have HLow := hid hlow
        have HBl := hid hbl
        have HMn := hid hmn
        have HG' := hid hg'
        obtain ⟨vs2, hp2, t2, hf2⟩ := ha'
        have HP2 := hid hp2
        have HT2 := hid t2
        have HF2 := hid hf2
        have nf : ∀ k, SFoot cb sm l k → ¬ Foot p mb vs k := H1.out.ap
        have c22 := (t2.cell (a := ⟨cb, 2, none⟩) (lt_of_cell c2) (nf cb (.inl rfl))).trans c2
        have c12 := (t2.cell (a := ⟨cb, 1, none⟩) (lt_of_cell c1) (nf cb (.inl rfl))).trans c1
        have HS2 := hid (H1.out.slab.turned t2 nf)
        have hp1 := H1.out.p1
        have hp2' := H1.out.p2
        have HBm := hid hbm
        have hb0 : 0 ≤ base ∧ base + sz k ≤ q.n := ⟨(H1.out.good.okF k base hk7 hbm).2.1, (H1.out.good.okF k base hk7 hbm).2.2.2⟩
        clear hlow hbl hmn hg' hp2 t2 hf2 nf HPa c2 c1 hbm
        go_upto_region 16 with fail
        have hmk := make_bools per hp2' w2.drew
        obtain ⟨O, hO⟩ : ∃ O, Obj.cells (madeCells #[.bool false] per) 4 = O := ⟨_, rfl⟩
        rw [hO] at hmk
        have TO : Turn (fun _ => False) w2 (w2.alloc O).drew := ((Turn.refl _ _).alloc _).drew
        have c22a := (TO.cell (a := ⟨cb, 2, none⟩) (lt_of_cell c22) id).trans c22
        obtain ⟨w3, hrun, hm3, t3⟩ := (HS2.out.mp.turned TO id).run_update keyI Tryd.underlying178 Tryd.underlying3 base w2.heap.size
        simp only [encI] at hrun
        have HTO := hid TO
        have HM3 := hid hm3
        have HT3 := hid t3
        have HO := hid hO
        clear TO hm3 t3 hO
        go_region
        have T23 := (HTO.out.mono (S' := fun k => k = sm) fun _ _ h => h.elim).trans HT3.out
        have HRw : RowB w3 w2.heap.size per (fun _ => false) := by
          have hsm2 := HS2.out.mp.lt
          have hra : RowB (w2.alloc O).drew w2.heap.size per (fun _ => false) := by
            rw [← HO.out]
            exact RowB.turned ⟨fun j hj => by rw [World.cell?_alloc_new]; simp [madeCells, hj, Nat.mod_one], fun j => by simp, by simp⟩ ((Turn.refl (fun _ => False) _).drew) id
          exact hra.turned HT3.out (by omega)
        obtain ⟨hno, hS3, t13, g13⟩ := H1.out.grown HP2.out HG'.out HMn.out HT2.out HF2.out T23 rfl HM3.out HRw
        have HNo := hid hno
        have HS3 := hid hS3
        have HT13 := hid t13
        have HG13 := hid g13
        have HRW := hid HRw
        obtain ⟨nb, hnb⟩ : ∃ nb, w2.heap.size = nb := ⟨_, rfl⟩
        have hnle : wc.heap.size ≤ nb := by rw [← hnb]; exact HT2.out.size
        rw [hnb] at HS3 HRW HG13
        have hmg : mget (l ++ [(base, nb)]) base = some nb := by
          rw [← mput_newS HNo.out, mget_mput, if_pos rfl]
        have HMm := hid (mem_of_mget hmg)
        have lk := lookup_slab HS3.out.slab base
        unfold whereS at lk
        rw [hmg] at lk
        simp only [Option.elim] at lk
        have c23 := HS3.out.slab.c2
        have c13 := HS3.out.slab.c1
        have HIx := hid (index_first (v := false) HRW.out (by omega) (hasB_true.2 ⟨0, by omega, rfl⟩))
        have hbc : cb ≠ nb := fun e => (HS3.out.slab.ap _ HMm.out).1 e.symm
        have hq := H1.out.hn
        have hsz : sz 0 = 1 := rfl
        have hszk := sz_pos k
        have hm0 : 0 ≤ base * per := Int.mul_nonneg hb0.1 (by omega)
        have hm1 : base * per ≤ 256 * 16 := Int.mul_le_mul (by omega) (by omega) (by omega) (by omega)
        have hw1 : IntKind.i64.wrap (base * per) = base * per := IntWalk.i64_in _ (by omega)
        clear HRw hno hS3 t13 g13 T23 hrun hmk c22a c22 c12 HS2 HP2 HG' HM3 HT3 HTO HO hnb hmg hsz hszk HT2 HF2
        go_wp2_with fail
        refine HIx.out.mono ?_
        rintro e w4 ⟨j, rfl, hj, _, hfirst, rfl⟩
        obtain rfl : j = 0 := by
          rcases Nat.eq_zero_or_pos j with h | h
          · exact h
          · exact absurd rfl (hfirst 0 h)
        have hfz := HRW.out.fz 0
        have hkc := HRW.out.cell 0 hj
        have hk' : (0 : Int) < per := by omega
        have T2 : Turn (fun j => j = nb) w3 (w3.setCell ⟨nb, 0, none⟩ (.bool true)) := (Turn.refl _ _).setCell ⟨nb, 0, none⟩ _ (fun _ => rfl)
        have c1s := (T2.cell (a := ⟨cb, 1, none⟩) (lt_of_cell c13) hbc).trans c13
        have HT2 := hid T2
        clear hfirst HIx T2
        go_wp2_with fail
        go_ret2
        right; right
        unfold SlabNew
        rw [HF0.out]
        refine ⟨hneg, k, base, fr', nb, hk7, fun j hj => HLow.out j (Nat.zero_le _) hj, HBm.out, HBl.out, HMn.out, HNo.out, hb0.1, Nat.le_trans HT1.out.size hnle, rfl, ?_⟩
        refine SAfter.before ?_ HT1.out
        refine SAfter.trans HT13.out HG13.out ?_
        have hp := HS3.out.put HMm.out HT2.out (HRW.out.set 0 hj true)
        rw [updR_updR] at hp
        exact hp
    · have h01 := pickF_mem (fun f => hasB (rowOf l B f) per false) (fun f => hasB (rowOf l B f) per true) (framesOfL l) (-1)
      have hfo : pickF (fun f => hasB (rowOf l B f) per false) (fun f => hasB (rowOf l B f) per true) (framesOfL l) (-1) = f0 := HF0.out
      rw [hfo] at h01
      obtain ⟨hfm, hroom⟩ := h01.resolve_left (by omega)
      obtain ⟨b, hb⟩ := mget_of_frame hfm
      rw [show rowOf l B f0 = B b from rowOf_some hb] at hroom
      have hmem := mem_of_mget hb
      have hfr := H1.out.frame _ hmem
      have hq := H1.out.hn
      have hp1 := H1.out.p1
      have hp2 := H1.out.p2
      have HRow := hid (H1.out.slab.row _ hmem)
      have HIx := hid (index_first HRow.out (by omega) hroom)
      have lk := lookup_slab H1.out.slab f0
      unfold whereS at lk
      rw [hb] at lk
      simp only [Option.elim] at lk
      have HB := hid hb
      have HM := hid hmem
      clear hfo h01 hfm hroom hb hmem
      go_wp2_with fail
      refine HIx.out.mono ?_
      rintro e w2 ⟨k, rfl, hk, hfalse, hfirst, rfl⟩
      have HFs := hid hfirst
      have HFa := hid hfalse
      have hk' : (k : Int) < per := by omega
      have hfz := HRow.out.fz k
      have hkc := HRow.out.cell k hk
      have hbc : cb ≠ b := fun e => (H1.out.slab.ap _ HM.out).1 e.symm
      have T2 : Turn (fun j => j = b) wc (wc.setCell ⟨b, k, none⟩ (.bool true)) := (Turn.refl _ _).setCell ⟨b, k, none⟩ _ (fun _ => rfl)
      have c1s := (T2.cell (a := ⟨cb, 1, none⟩) (lt_of_cell c1) hbc).trans c1
      have HT2 := hid T2
      have hm0 : 0 ≤ f0 * per := Int.mul_nonneg hfr.1 (by omega)
      have hm1 : f0 * per ≤ 256 * 16 := Int.mul_le_mul (by omega) (by omega) (by omega) (by omega)
      have hw1 : IntKind.i64.wrap (f0 * per) = f0 * per := IntWalk.i64_in _ (by omega)
      have hw2 : IntKind.i64.wrap (f0 * per + k) = f0 * per + k := IntWalk.i64_in _ (by omega)
      clear hfirst hfalse HIx T2
      go_wp2_with fail
      go_ret2
      left
      unfold SlabOld
      rw [HF0.out]
      have T02 : SAfter p mb vs cb sm per l w (wc.setCell ⟨b, k, none⟩ (.bool true)) q l (updR B b (setB (B b) k true)) :=
        ((H.out.turned HT1.out (fun _ _ => id)).put HM.out HT2.out (HRow.out.set k hk true)).before HT1.out
      exact ⟨b, k, HB.out, hk, HFa.out, fun i hi => by have := HFs.out i hi; simpa using this, rfl, T02⟩
end
end Go.Proofs.YtiohpmcedfbcgabDoor
/- Package slab: Reap. Conditions: each theorem's own premises. -/
namespace Go.Proofs.YtiohpmcedfbcgabDoor
open Go.RowKit
set_option linter.unusedVariables false

/-- Which of these frames have no things. -/
def goneOf (l : List (Int × Nat)) (B : Nat → Nat → Bool) (per : Nat) (fs : List Int) : List Int := fs.filter fun f => !hasB (rowOf l B f) per true
def dels {β : Type} (l : List (Int × β)) (fs : List Int) : List (Int × β) := fs.foldl mdel l
theorem mget_dels {β : Type} : ∀ (fs : List Int) (l : List (Int × β)) (f : Int), mget (dels l fs) f = if f ∈ fs then none else mget l f
  | [], l, f => by simp [dels]
  | g :: fs, l, f => by
    have h := mget_dels fs (mdel l g) f
    show mget (dels (mdel l g) fs) f = _
    rw [h, mget_mdel]
    by_cases e : f = g
    · subst e; simp
    · simp [e]
theorem goneOf_step_keep {l : List (Int × Nat)} {B : Nat → Nat → Bool} {per : Nat} {fs : List Int} {j : Nat} {f : Int} (hf : fs[j]? = some f) (h : hasB (rowOf l B f) per true = true) : goneOf l B per (fs.take (j + 1)) = goneOf l B per (fs.take j) := by
  unfold goneOf
  rw [List.take_add_one, hf, List.filter_append]
  simp [h]
theorem goneOf_step_go {l : List (Int × Nat)} {B : Nat → Nat → Bool} {per : Nat} {fs : List Int} {j : Nat} {f : Int} (hf : fs[j]? = some f) (h : hasB (rowOf l B f) per true = false) : goneOf l B per (fs.take (j + 1)) = goneOf l B per (fs.take j) ++ [f] := by
  unfold goneOf
  rw [List.take_add_one, hf, List.filter_append]
  simp [h]
theorem framesOfL_nodup {l : List (Int × Nat)} (h : MNodup l) : (framesOfL l).Nodup := (List.mergeSort_perm _ _).nodup_iff.2 h
theorem goneOf_not {l : List (Int × Nat)} {B : Nat → Nat → Bool} {per : Nat} {fs : List Int} (hn : fs.Nodup) {j : Nat} {f : Int} (hf : fs[j]? = some f) : f ∉ goneOf l B per (fs.take j) := fun hm => by
  have h1 := (List.mem_filter.1 hm).1
  obtain ⟨i, hi⟩ := List.getElem?_of_mem h1
  have hij : i < j := by
    have := (List.getElem?_eq_some_iff.1 hi).1
    simp at this; omega
  rw [List.getElem?_take_of_lt hij] at hi
  obtain ⟨a1, a2⟩ := List.getElem?_eq_some_iff.1 hi
  obtain ⟨b1, b2⟩ := List.getElem?_eq_some_iff.1 hf
  have := (List.getElem_inj hn).1 (a2.trans b2.symm)
  omega

section
variable {p mb cb sm per : Nat} {vs : Nat → Value} {q : Pl} {l : List (Int × Nat)} {B : Nat → Nat → Bool}
/-- A frame given back, and forgotten. -/
theorem SPool.less {w w2 w3 : World} {vs2 : Nat → Value} {fr' : Fr} {f : Int} (h : SPool w p mb vs q cb sm per l B)
    (hp : PoolAt w2 p mb vs2 ⟨q.n, fr', mdel q.tk f⟩) (hg : Good q.n fr' (mdel q.tk f)) (t2 : Turn (Foot p mb vs) w w2) (g2 : ∀ k, Foot p mb vs2 k → Foot p mb vs k ∨ w.heap.size ≤ k)
    (t3 : Turn (fun k => k = sm) w2 w3) (hmp : MapIs w3 sm (.int .i64) encI (fun b : Nat => Value.slice (some ⟨b, 0, none⟩) per per) (mdel l f)) :
    SAfter p mb vs cb sm per l w w3 ⟨q.n, fr', mdel q.tk f⟩ (mdel l f) B := by
  have hs2 := h.slab.turned t2 h.ap
  have hsub : ∀ t ∈ mdel l f, t ∈ l ∧ t.1 ≠ f := fun t ht => by
    have := List.mem_filter.1 ht
    exact ⟨this.1, by simpa using this.2⟩
  have hsm : SFoot cb sm l sm := .inr (.inl rfl)
  have hfoot : ∀ k, SFoot cb sm (mdel l f) k → SFoot cb sm l k := fun k hk => by
    rcases hk with h1 | h1 | h1
    · exact .inl h1
    · exact .inr (.inl h1)
    · obtain ⟨t, ht, rfl⟩ := List.mem_map.1 h1
      exact .inr (.inr (List.mem_map.2 ⟨t, (hsub t ht).1, rfl⟩))
  have hcs : cb ≠ sm := h.slab.ne
  have hsmlt : sm < w.heap.size := h.slab.foot_lt sm hsm
  refine ⟨vs2, ⟨hp.turned t3 (fun k hk e => ?_), hg, h.hn, ⟨?_, ?_, ?_, hmp, fun t ht => ?_, ?_, fun t ht => h.slab.ap t (hsub t ht).1, hcs⟩, fun t ht => ?_, fun k hk hf => ?_, h.p1, h.p2⟩, ?_, fun k hk => ?_⟩
  · rcases g2 k hk with h1 | h1
    · exact h.ap sm hsm (e ▸ h1)
    · omega
  · exact (t3.cell (a := ⟨cb, 0, none⟩) (lt_of_cell hs2.c0) hcs).trans hs2.c0
  · exact (t3.cell (a := ⟨cb, 1, none⟩) (lt_of_cell hs2.c1) hcs).trans hs2.c1
  · exact (t3.cell (a := ⟨cb, 2, none⟩) (lt_of_cell hs2.c2) hcs).trans hs2.c2
  · have h1 := (hsub t ht).1
    exact (hs2.row t h1).turned t3 (hs2.ap t h1).2
  · exact ((List.filter_sublist (p := fun p : Int × Nat => decide (p.1 ≠ f)) (l := l)).map (·.2)).nodup h.slab.inj
  · simp only
    rw [mget_mdel, if_neg (hsub t ht).2]
    exact h.held t (hsub t ht).1
  · rcases g2 k hf with h2 | h2
    · exact h.ap k (hfoot k hk) h2
    · have := h.slab.foot_lt k (hfoot k hk); omega
  · refine Turn.trans' (S := Feet p mb vs cb sm l) (t2.mono fun _ _ h => .inl h) t3 (fun k hk e => ?_)
    subst e
    exact .inr hsm
  · rcases hk with h1 | h1
    · exact (g2 k h1).imp .inl id
    · exact .inl (.inr (hfoot k h1))

def SlabReaped (p mb : Nat) (vs : Nat → Value) (q : Pl) (cb sm per : Nat) (l : List (Int × Nat)) (B : Nat → Nat → Bool) (w : World) (e : Ending) (w' : World) : Prop :=
  ∃ fr', e = .returned (.int .i64 (goneOf l B per (framesOfL l)).length) ∧ SAfter p mb vs cb sm per l w w' ⟨q.n, fr', dels q.tk (goneOf l B per (framesOfL l))⟩ (dels l (goneOf l B per (framesOfL l))) B
set_option maxHeartbeats 4000000 in
set_option maxRecDepth 100000 in
theorem slabReap_any {w : World} (h : SPool w p mb vs q cb sm per l B) : Calls Tryd.prog 60 #[.pointer (some ⟨cb, 0, none⟩)] w (SlabReaped p mb vs q cb sm per l B w) := by
  have HFr := hid (frames_at h.slab h.wf (by have := h.len; omega))
  have H := hid h
  clear h
  go_enter Tryd.func60, Tryd.ntmps60
  go_wp2_with fail
  refine HFr.out.mono ?_
  rintro e w1 ⟨v, rfl, hi, hv, t1⟩
  have HI := hid hi
  have HV := hid hv
  have HT1 := hid t1
  have H1 := hid (H.out.turned t1 (fun _ _ => id))
  obtain ⟨a, cap, rfl⟩ : ∃ a cap, v = .slice a (framesOfL l).length cap := by
    rcases hi.shape with ⟨rfl, h2⟩ | ⟨g, cap, rfl, _⟩
    · exact ⟨none, 0, by rw [h2]; rfl⟩
    · exact ⟨_, _, rfl⟩
  have hlen : (framesOfL l).length ≤ 256 := by rw [framesOfL_length]; exact H.out.len
  have hnd := framesOfL_nodup H.out.slab.mp.nodup
  have HNd := hid hnd
  have HGl : Hid (∀ j, (goneOf l B per ((framesOfL l).take j)).length ≤ 256) := hid (fun j => by
    have h1 : (goneOf l B per ((framesOfL l).take j)).length ≤ ((framesOfL l).take j).length := List.length_filter_le _ _
    have h2 := List.length_take_le j (framesOfL l)
    have h3 : ((framesOfL l).take j).length ≤ (framesOfL l).length := by rw [List.length_take]; omega
    omega)
  clear hi hv t1 HFr hnd
  go_wp2_with fail
  go_loopg [3, 9] ((framesOfL l).length) (fun gl nv i wr => ∃ (j : Nat) (fr' : Fr), j + gl = (framesOfL l).length ∧ i = .int .i64 j ∧ nv = .int .i64 (goneOf l B per ((framesOfL l).take j)).length ∧
    Hid (SAfter p mb vs cb sm per l w1 wr ⟨q.n, fr', dels q.tk (goneOf l B per ((framesOfL l).take j))⟩ (dels l (goneOf l B per ((framesOfL l).take j))) B))
  case atStart => exact ⟨0, q.fr, by omega, rfl, rfl, hid (H1.out.same (Turn.refl _ _))⟩
  case round =>
    obtain ⟨j, frj, hj, rfl, rfl, hSj⟩ := hrel
    by_cases hlt : j < (framesOfL l).length
    · have hlt' : (j : Int) < (framesOfL l).length := by omega
      obtain ⟨f, hf⟩ : ∃ f, (framesOfL l)[j]? = some f := ⟨_, List.getElem?_eq_getElem hlt⟩
      obtain ⟨vsj, hsj, tj, gj⟩ := hSj.out
      have hfeet : ∀ g, (Value.slice a (framesOfL l).length cap).ownBlock = some g → ¬ Feet p mb vs cb sm l g := fun g hg hk => by
        have h1 := HV.out g hg
        have h2 := H.out.feet_lt g hk
        omega
      obtain ⟨g, hg, hcell⟩ : ∃ g, a = some ⟨g, 0, none⟩ ∧ wr.cell? ⟨g, j, none⟩ = some (.int .i64 f) := by
        have hiw := HI.out.turned tj hfeet
        rcases hiw.shape with ⟨h1, h2⟩ | ⟨g, cap, h1, _⟩
        · rw [h2] at hlt; simp at hlt
        · cases h1
          exact ⟨g, rfl, hiw.cell j f hf⟩
      subst hg
      obtain ⟨b, hb⟩ := mget_of_frame (List.mem_of_getElem? hf)
      have hnot := goneOf_not (l := l) (B := B) (per := per) HNd.out hf
      have hbj : mget (dels l (goneOf l B per ((framesOfL l).take j))) f = some b := by rw [mget_dels, if_neg hnot]; exact hb
      have lk := lookup_slab hsj.slab f
      unfold whereS at lk
      rw [hbj] at lk
      simp only [Option.elim] at lk
      have hrow := rowOf_some (B := B) hb
      have hmem := mem_of_mget hbj
      have HRw := hid (hsj.slab.row _ hmem)
      have HP2 := hsj.p2
      have HT := hid (contains_has HRw.out (by omega) true)
      have c0 := hsj.slab.c0
      have c2 := hsj.slab.c2
      have hgl := HGl.out j
      cases r1 : hasB (B b) per true with
      | true =>
        have hstep := goneOf_step_keep (l := l) (B := B) (per := per) hf (by rw [hrow]; exact r1)
        rw [r1] at HT
        have HSt := hid hstep
        clear hstep r1 hrow hf hb hbj hnot hsj tj gj hfeet hmem HP2 HRw
        go_wp2_with fail
        refine HT.out.mono ?_
        rintro e w2 ⟨rfl, rfl⟩
        go_wp2_with fail
        go_roundg (gk - 1)
        case measure => omega
        case rel => exact ⟨j + 1, frj, by omega, by go_num, by rw [HSt.out], by rw [HSt.out]; exact hSj⟩
      | false =>
        have hstep := goneOf_step_go (l := l) (B := B) (per := per) hf (by rw [hrow]; exact r1)
        rw [r1] at HT
        have HSt := hid hstep
        have hh := hsj.held _ hmem
        simp only at hh
        have HGv : Hid (Calls Tryd.prog 27 #[.pointer (some ⟨p, 0, none⟩), .int .i64 f, .int .i64 0] wr fun e w' => e = .returned .nilIface ∧ ∃ fr', Good q.n fr' (mdel (dels q.tk (goneOf l B per ((framesOfL l).take j))) f) ∧ PoolAfter p mb vsj wr w' ⟨q.n, fr', mdel (dels q.tk (goneOf l B per ((framesOfL l).take j))) f⟩) := hid (give_ok hsj.pool f 0 hh hsj.good hsj.hn)
        have HSj := hid hsj
        have HTj := hid tj
        have HGj := hid gj
        have hcsm := hsj.ap
        clear hstep r1 hrow hf hb hbj hnot hsj tj gj hfeet hmem HP2 hh hSj HRw
        go_wp2_with fail
        refine HT.out.mono ?_
        rintro e w2 ⟨rfl, rfl⟩
        go_wp2_with fail
        refine HGv.out.mono ?_
        rintro e w2 ⟨rfl, fr2, hg2, vs2, hp2, t2, g2⟩
        have c22 := (t2.cell (a := ⟨cb, 2, none⟩) (lt_of_cell c2) (hcsm cb (.inl rfl))).trans c2
        have HMp := hid (HSj.out.slab.mp.turned t2 (hcsm sm (.inr (.inl rfl))))
        have HG2 := hid hg2
        have HP2 := hid hp2
        have HT2 := hid t2
        have Hg2 := hid g2
        clear hg2 hp2 t2 g2 hcsm c2 lk
        go_wp2_with (at_delete; refine wpList_mapdel rfl _ _ 178 3 158 rfl Tryd.underlying178 Tryd.underlying3 keyI sm rfl HMp.out f rfl ?_; intro w4 hm4 t4; have HM4 := hid hm4; have HT4 := hid t4; clear hm4 t4)
        have hA := (HSj.out.less HP2.out HG2.out HT2.out Hg2.out HT4.out HM4.out)
        have HA := hid (SAfter.trans HTj.out HGj.out hA)
        go_roundg (gk - 1)
        case measure => omega
        case rel => exact ⟨j + 1, fr2, by omega, by go_num, by rw [HSt.out, List.length_append]; rfl, by rw [HSt.out]; unfold dels at HA ⊢; rw [List.foldl_append, List.foldl_append]; exact HA⟩
    · have hlt' : ¬ (j : Int) < (framesOfL l).length := by omega
      have hjl : j = (framesOfL l).length := by omega
      subst hjl
      rw [List.take_length] at hSj ⊢
      go_wp2_with fail
      go_ret
      exact ⟨frj, rfl, hSj.out.before HT1.out⟩
end
end Go.Proofs.YtiohpmcedfbcgabDoor
