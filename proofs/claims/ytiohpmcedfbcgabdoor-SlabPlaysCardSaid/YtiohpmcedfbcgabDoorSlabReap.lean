/- Package slab: Reap. Conditions: each theorem's own premises. -/
import Derived.Test.YtiohpmcedfbcgabDoorSlabAlloc
namespace Go.Proofs.YtiohpmcedfbcgabDoor
open Go.RowKit
set_option linter.unusedVariables false

/-- Which of these frames have no things. -/
def goneOf (l : List (Int × Nat)) (B : Nat → Nat → Bool) (per : Nat) (fs : List Int) : List Int := fs.filter fun f => !hasB (rowOf l B f) per true
def dels {β : Type} (l : List (Int × β)) (fs : List Int) : List (Int × β) := fs.foldl mdel l
theorem mget_dels {β : Type} : ∀ (fs : List Int) (l : List (Int × β)) (f : Int), mget (dels l fs) f = if f ∈ fs then none else mget l f
  | [], l, f => by simp [dels]
  | g :: fs, l, f => by
    have h := mget_dels fs (mdel l g) f
    show mget (dels (mdel l g) fs) f = _
    rw [h, mget_mdel]
    by_cases e : f = g
    · subst e; simp
    · simp [e]
theorem goneOf_step_keep {l : List (Int × Nat)} {B : Nat → Nat → Bool} {per : Nat} {fs : List Int} {j : Nat} {f : Int} (hf : fs[j]? = some f) (h : hasB (rowOf l B f) per true = true) : goneOf l B per (fs.take (j + 1)) = goneOf l B per (fs.take j) := by
  unfold goneOf
  rw [List.take_add_one, hf, List.filter_append]
  simp [h]
theorem goneOf_step_go {l : List (Int × Nat)} {B : Nat → Nat → Bool} {per : Nat} {fs : List Int} {j : Nat} {f : Int} (hf : fs[j]? = some f) (h : hasB (rowOf l B f) per true = false) : goneOf l B per (fs.take (j + 1)) = goneOf l B per (fs.take j) ++ [f] := by
  unfold goneOf
  rw [List.take_add_one, hf, List.filter_append]
  simp [h]
theorem framesOfL_nodup {l : List (Int × Nat)} (h : MNodup l) : (framesOfL l).Nodup := (List.mergeSort_perm _ _).nodup_iff.2 h
theorem goneOf_not {l : List (Int × Nat)} {B : Nat → Nat → Bool} {per : Nat} {fs : List Int} (hn : fs.Nodup) {j : Nat} {f : Int} (hf : fs[j]? = some f) : f ∉ goneOf l B per (fs.take j) := fun hm => by
  have h1 := (List.mem_filter.1 hm).1
  obtain ⟨i, hi⟩ := List.getElem?_of_mem h1
  have hij : i < j := by
    have := (List.getElem?_eq_some_iff.1 hi).1
    simp at this; omega
  rw [List.getElem?_take_of_lt hij] at hi
  obtain ⟨a1, a2⟩ := List.getElem?_eq_some_iff.1 hi
  obtain ⟨b1, b2⟩ := List.getElem?_eq_some_iff.1 hf
  have := (List.getElem_inj hn).1 (a2.trans b2.symm)
  omega

section
variable {p mb cb sm per : Nat} {vs : Nat → Value} {q : Pl} {l : List (Int × Nat)} {B : Nat → Nat → Bool}
/-- A frame given back, and forgotten. -/
theorem SPool.less {w w2 w3 : World} {vs2 : Nat → Value} {fr' : Fr} {f : Int} (h : SPool w p mb vs q cb sm per l B)
    (hp : PoolAt w2 p mb vs2 ⟨q.n, fr', mdel q.tk f⟩) (hg : Good q.n fr' (mdel q.tk f)) (t2 : Turn (Foot p mb vs) w w2) (g2 : ∀ k, Foot p mb vs2 k → Foot p mb vs k ∨ w.heap.size ≤ k)
    (t3 : Turn (fun k => k = sm) w2 w3) (hmp : MapIs w3 sm (.int .i64) encI (fun b : Nat => Value.slice (some ⟨b, 0, none⟩) per per) (mdel l f)) :
    SAfter p mb vs cb sm per l w w3 ⟨q.n, fr', mdel q.tk f⟩ (mdel l f) B := by
  have hs2 := h.slab.turned t2 h.ap
  have hsub : ∀ t ∈ mdel l f, t ∈ l ∧ t.1 ≠ f := fun t ht => by
    have := List.mem_filter.1 ht
    exact ⟨this.1, by simpa using this.2⟩
  have hsm : SFoot cb sm l sm := .inr (.inl rfl)
  have hfoot : ∀ k, SFoot cb sm (mdel l f) k → SFoot cb sm l k := fun k hk => by
    rcases hk with h1 | h1 | h1
    · exact .inl h1
    · exact .inr (.inl h1)
    · obtain ⟨t, ht, rfl⟩ := List.mem_map.1 h1
      exact .inr (.inr (List.mem_map.2 ⟨t, (hsub t ht).1, rfl⟩))
  have hcs : cb ≠ sm := h.slab.ne
  have hsmlt : sm < w.heap.size := h.slab.foot_lt sm hsm
  refine ⟨vs2, ⟨hp.turned t3 (fun k hk e => ?_), hg, h.hn, ⟨?_, ?_, ?_, hmp, fun t ht => ?_, ?_, fun t ht => h.slab.ap t (hsub t ht).1, hcs⟩, fun t ht => ?_, fun k hk hf => ?_, h.p1, h.p2⟩, ?_, fun k hk => ?_⟩
  · rcases g2 k hk with h1 | h1
    · exact h.ap sm hsm (e ▸ h1)
    · omega
  · exact (t3.cell (a := ⟨cb, 0, none⟩) (lt_of_cell hs2.c0) hcs).trans hs2.c0
  · exact (t3.cell (a := ⟨cb, 1, none⟩) (lt_of_cell hs2.c1) hcs).trans hs2.c1
  · exact (t3.cell (a := ⟨cb, 2, none⟩) (lt_of_cell hs2.c2) hcs).trans hs2.c2
  · have h1 := (hsub t ht).1
    exact (hs2.row t h1).turned t3 (hs2.ap t h1).2
  · exact ((List.filter_sublist (p := fun p : Int × Nat => decide (p.1 ≠ f)) (l := l)).map (·.2)).nodup h.slab.inj
  · simp only
    rw [mget_mdel, if_neg (hsub t ht).2]
    exact h.held t (hsub t ht).1
  · rcases g2 k hf with h2 | h2
    · exact h.ap k (hfoot k hk) h2
    · have := h.slab.foot_lt k (hfoot k hk); omega
  · refine Turn.trans' (S := Feet p mb vs cb sm l) (t2.mono fun _ _ h => .inl h) t3 (fun k hk e => ?_)
    subst e
    exact .inr hsm
  · rcases hk with h1 | h1
    · exact (g2 k h1).imp .inl id
    · exact .inl (.inr (hfoot k h1))

def SlabReaped (p mb : Nat) (vs : Nat → Value) (q : Pl) (cb sm per : Nat) (l : List (Int × Nat)) (B : Nat → Nat → Bool) (w : World) (e : Ending) (w' : World) : Prop :=
  ∃ fr', e = .returned (.int .i64 (goneOf l B per (framesOfL l)).length) ∧ SAfter p mb vs cb sm per l w w' ⟨q.n, fr', dels q.tk (goneOf l B per (framesOfL l))⟩ (dels l (goneOf l B per (framesOfL l))) B
set_option maxHeartbeats 4000000 in
set_option maxRecDepth 100000 in
theorem slabReap_any {w : World} (h : SPool w p mb vs q cb sm per l B) : Calls Tryd.prog 60 #[.pointer (some ⟨cb, 0, none⟩)] w (SlabReaped p mb vs q cb sm per l B w) := by
  have HFr := hid (frames_at h.slab h.wf (by have := h.len; omega))
  have H := hid h
  clear h
  go_enter Tryd.func60, Tryd.ntmps60
  go_wp2_with fail
  refine HFr.out.mono ?_
  rintro e w1 ⟨v, rfl, hi, hv, t1⟩
  have HI := hid hi
  have HV := hid hv
  have HT1 := hid t1
  have H1 := hid (H.out.turned t1 (fun _ _ => id))
  obtain ⟨a, cap, rfl⟩ : ∃ a cap, v = .slice a (framesOfL l).length cap := by
    rcases hi.shape with ⟨rfl, h2⟩ | ⟨g, cap, rfl, _⟩
    · exact ⟨none, 0, by rw [h2]; rfl⟩
    · exact ⟨_, _, rfl⟩
  have hlen : (framesOfL l).length ≤ 256 := by rw [framesOfL_length]; exact H.out.len
  have hnd := framesOfL_nodup H.out.slab.mp.nodup
  have HNd := hid hnd
  have HGl : Hid (∀ j, (goneOf l B per ((framesOfL l).take j)).length ≤ 256) := hid (fun j => by
    have h1 : (goneOf l B per ((framesOfL l).take j)).length ≤ ((framesOfL l).take j).length := List.length_filter_le _ _
    have h2 := List.length_take_le j (framesOfL l)
    have h3 : ((framesOfL l).take j).length ≤ (framesOfL l).length := by rw [List.length_take]; omega
    omega)
  clear hi hv t1 HFr hnd
  go_wp2_with fail
  go_loopg [3, 9] ((framesOfL l).length) (fun gl nv i wr => ∃ (j : Nat) (fr' : Fr), j + gl = (framesOfL l).length ∧ i = .int .i64 j ∧ nv = .int .i64 (goneOf l B per ((framesOfL l).take j)).length ∧
    Hid (SAfter p mb vs cb sm per l w1 wr ⟨q.n, fr', dels q.tk (goneOf l B per ((framesOfL l).take j))⟩ (dels l (goneOf l B per ((framesOfL l).take j))) B))
  case atStart => exact ⟨0, q.fr, by omega, rfl, rfl, hid (H1.out.same (Turn.refl _ _))⟩
  case round =>
    obtain ⟨j, frj, hj, rfl, rfl, hSj⟩ := hrel
    by_cases hlt : j < (framesOfL l).length
    · have hlt' : (j : Int) < (framesOfL l).length := by omega
      obtain ⟨f, hf⟩ : ∃ f, (framesOfL l)[j]? = some f := ⟨_, List.getElem?_eq_getElem hlt⟩
      obtain ⟨vsj, hsj, tj, gj⟩ := hSj.out
      have hfeet : ∀ g, (Value.slice a (framesOfL l).length cap).ownBlock = some g → ¬ Feet p mb vs cb sm l g := fun g hg hk => by
        have h1 := HV.out g hg
        have h2 := H.out.feet_lt g hk
        omega
      obtain ⟨g, hg, hcell⟩ : ∃ g, a = some ⟨g, 0, none⟩ ∧ wr.cell? ⟨g, j, none⟩ = some (.int .i64 f) := by
        have hiw := HI.out.turned tj hfeet
        rcases hiw.shape with ⟨h1, h2⟩ | ⟨g, cap, h1, _⟩
        · rw [h2] at hlt; simp at hlt
        · cases h1
          exact ⟨g, rfl, hiw.cell j f hf⟩
      subst hg
      obtain ⟨b, hb⟩ := mget_of_frame (List.mem_of_getElem? hf)
      have hnot := goneOf_not (l := l) (B := B) (per := per) HNd.out hf
      have hbj : mget (dels l (goneOf l B per ((framesOfL l).take j))) f = some b := by rw [mget_dels, if_neg hnot]; exact hb
      have lk := lookup_slab hsj.slab f
      unfold whereS at lk
      rw [hbj] at lk
      simp only [Option.elim] at lk
      have hrow := rowOf_some (B := B) hb
      have hmem := mem_of_mget hbj
      have HRw := hid (hsj.slab.row _ hmem)
      have HP2 := hsj.p2
      have HT := hid (contains_has HRw.out (by omega) true)
      have c0 := hsj.slab.c0
      have c2 := hsj.slab.c2
      have hgl := HGl.out j
      cases r1 : hasB (B b) per true with
      | true =>
        have hstep := goneOf_step_keep (l := l) (B := B) (per := per) hf (by rw [hrow]; exact r1)
        rw [r1] at HT
        have HSt := hid hstep
        clear hstep r1 hrow hf hb hbj hnot hsj tj gj hfeet hmem HP2 HRw
        go_wp2_with fail
        refine HT.out.mono ?_
        rintro e w2 ⟨rfl, rfl⟩
        go_wp2_with fail
        go_roundg (gk - 1)
        case measure => omega
        case rel => exact ⟨j + 1, frj, by omega, by go_num, by rw [HSt.out], by rw [HSt.out]; exact hSj⟩
      | false =>
        have hstep := goneOf_step_go (l := l) (B := B) (per := per) hf (by rw [hrow]; exact r1)
        rw [r1] at HT
        have HSt := hid hstep
        have hh := hsj.held _ hmem
        simp only at hh
        have HGv : Hid (Calls Tryd.prog 27 #[.pointer (some ⟨p, 0, none⟩), .int .i64 f, .int .i64 0] wr fun e w' => e = .returned .nilIface ∧ ∃ fr', Good q.n fr' (mdel (dels q.tk (goneOf l B per ((framesOfL l).take j))) f) ∧ PoolAfter p mb vsj wr w' ⟨q.n, fr', mdel (dels q.tk (goneOf l B per ((framesOfL l).take j))) f⟩) := hid (give_ok hsj.pool f 0 hh hsj.good hsj.hn)
        have HSj := hid hsj
        have HTj := hid tj
        have HGj := hid gj
        have hcsm := hsj.ap
        clear hstep r1 hrow hf hb hbj hnot hsj tj gj hfeet hmem HP2 hh hSj HRw
        go_wp2_with fail
        refine HT.out.mono ?_
        rintro e w2 ⟨rfl, rfl⟩
        go_wp2_with fail
        refine HGv.out.mono ?_
        rintro e w2 ⟨rfl, fr2, hg2, vs2, hp2, t2, g2⟩
        have c22 := (t2.cell (a := ⟨cb, 2, none⟩) (lt_of_cell c2) (hcsm cb (.inl rfl))).trans c2
        have HMp := hid (HSj.out.slab.mp.turned t2 (hcsm sm (.inr (.inl rfl))))
        have HG2 := hid hg2
        have HP2 := hid hp2
        have HT2 := hid t2
        have Hg2 := hid g2
        clear hg2 hp2 t2 g2 hcsm c2 lk
        go_wp2_with (at_delete; refine wpList_mapdel rfl _ _ 178 3 158 rfl Tryd.underlying178 Tryd.underlying3 keyI sm rfl HMp.out f rfl ?_; intro w4 hm4 t4; have HM4 := hid hm4; have HT4 := hid t4; clear hm4 t4)
        have hA := (HSj.out.less HP2.out HG2.out HT2.out Hg2.out HT4.out HM4.out)
        have HA := hid (SAfter.trans HTj.out HGj.out hA)
        go_roundg (gk - 1)
        case measure => omega
        case rel => exact ⟨j + 1, fr2, by omega, by go_num, by rw [HSt.out, List.length_append]; rfl, by rw [HSt.out]; unfold dels at HA ⊢; rw [List.foldl_append, List.foldl_append]; exact HA⟩
    · have hlt' : ¬ (j : Int) < (framesOfL l).length := by omega
      have hjl : j = (framesOfL l).length := by omega
      subst hjl
      rw [List.take_length] at hSj ⊢
      go_wp2_with fail
      go_ret
      exact ⟨frj, rfl, hSj.out.before HT1.out⟩
end
end Go.Proofs.YtiohpmcedfbcgabDoor
