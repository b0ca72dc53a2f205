/- The document's processes in memory: what they are, and Runs. Conditions: each theorem's own premises. -/
import Derived.Test.YtiohpmcedfbcgabDoorProcKin
import Derived.Test.YtiohpmcedfbcgabDoorProcOne
import Derived.Test.YtiohpmcedfbcgabDoorProcNew
namespace Go.Proofs.YtiohpmcedfbcgabDoor
open Go.RowKit
set_option linter.unusedVariables false

/-- A process as the document has it: whose, whether it runs, its code, and where its two maps lie. -/
structure DP where
  parent : Int
  state : Int
  code : Int
  wb : Nat
  ib : Nat
def encDP (p : DP) : Value := .agg #[.int .i64 p.parent, .int .i64 p.state, .int .i64 p.code, .map (some p.wb), .map (some p.ib)]
def encN (n : Int) : Value := .int .i64 n
def zeroD : Value := .agg #[.int .i64 0, .int .i64 0, .int .i64 0, .map none, .map none]
theorem zeroD_is (w : World) : (zeroValue 76).run Tryd.prog w = .ok zeroD w := by kernel_rfl
theorem zeroN_is (w : World) : (zeroValue 3).run Tryd.prog w = .ok (.int .i64 0) w := by kernel_rfl
def dmap (l : List (Int × Nat)) (G : Nat → DP) : List (Int × DP) := l.map fun t => (t.1, G t.2)
theorem mget_dmap (l : List (Int × Nat)) (G : Nat → DP) (k : Int) : mget (dmap l G) k = (mget l k).map G := by
  unfold mget dmap
  induction l with
  | nil => rfl
  | cons t l ih =>
    rw [List.map_cons, List.find?_cons, List.find?_cons]
    by_cases e : t.1 = k
    · simp [e]
    · simp only [e, decide_false]; exact ih
def updG (G : Nat → DP) (b : Nat) (p : DP) : Nat → DP := fun j => if j = b then p else G j
theorem updG_same (G : Nat → DP) (b : Nat) (p : DP) : updG G b p b = p := by simp [updG]
theorem updG_other (G : Nat → DP) {b j : Nat} (p : DP) (h : j ≠ b) : updG G b p j = G j := by simp [updG, h]
theorem dmap_put_new {l : List (Int × Nat)} {G : Nat → DP} {k : Int} {c : Nat} (h : mget l k = none) (hc : ∀ t ∈ l, t.2 ≠ c) (p : DP) : mput (dmap l G) k p = dmap (l ++ [(k, c)]) (updG G c p) := by
  unfold mput
  rw [mget_dmap, h]
  simp only [Option.map_none, Option.isSome_none, Bool.false_eq_true, if_false]
  unfold dmap
  rw [List.map_append]
  congr 1
  · refine List.map_congr_left fun t ht => ?_
    rw [updG_other _ _ (hc t ht)]
  · simp [updG_same]
theorem dmap_put_old {l : List (Int × Nat)} {G : Nat → DP} {k : Int} {b : Nat} (h : mget l k = some b) (hn : MNodup l) (hi : (l.map (·.2)).Nodup) (p : DP) : mput (dmap l G) k p = dmap l (updG G b p) := by
  unfold mput
  rw [mget_dmap, h]
  simp only [Option.map_some, Option.isSome_some, if_true]
  unfold mupd dmap
  rw [List.map_map]
  refine List.map_congr_left fun t ht => ?_
  simp only [Function.comp]
  by_cases e : t.1 = k
  · have e2 : t.2 = b := by
      have h1 := mget_mem hn (show (t.1, t.2) ∈ l from ht)
      rw [e, h] at h1
      exact (Option.some.inj h1).symm
    rw [if_pos e, e2, updG_same]
  · rw [if_neg e, updG_other _ _ (fun e2 => e (inj_mem hi (show (t.1, b) ∈ l by rw [← e2]; exact ht) (mem_of_mget h)))]
theorem dmap_del (l : List (Int × Nat)) (G : Nat → DP) (k : Int) : mdel (dmap l G) k = dmap (mdel l k) G := by
  unfold mdel dmap
  rw [List.filter_map]
  rfl

/-- The document's processes lie at rb, by the map pm: those of l, as G says; M: what is in each of their maps. -/
structure DocIs (w : World) (rb pm : Nat) (l : List (Int × Nat)) (G : Nat → DP) (M : Nat → List (Int × Int)) : Prop where
  hdr : w.cell? ⟨rb, 0, none⟩ = some (.map (some pm))
  mp : MapIs w pm (.int .i64) encI encDP (dmap l G)
  sw : ∀ t ∈ l, MapIs w (G t.2).wb (.int .i64) encI encN (M (G t.2).wb)
  si : ∀ t ∈ l, MapIs w (G t.2).ib (.int .i64) encI encN (M (G t.2).ib)
  ap : ∀ t ∈ l, ((G t.2).wb ≠ rb ∧ (G t.2).wb ≠ pm) ∧ ((G t.2).ib ≠ rb ∧ (G t.2).ib ≠ pm) ∧ (G t.2).wb ≠ (G t.2).ib
  inj : ∀ t ∈ l, ∀ s ∈ l, t.2 ≠ s.2 → (G t.2).wb ≠ (G s.2).wb ∧ (G t.2).ib ≠ (G s.2).ib ∧ (G t.2).wb ≠ (G s.2).ib
  ne : rb ≠ pm
def DFoot (rb pm : Nat) (l : List (Int × Nat)) (G : Nat → DP) (k : Nat) : Prop := k = rb ∨ k = pm ∨ ∃ t ∈ l, k = (G t.2).wb ∨ k = (G t.2).ib
theorem DocIs.turned {w w' : World} {rb pm : Nat} {l : List (Int × Nat)} {G : Nat → DP} {M : Nat → List (Int × Int)} {S : Nat → Prop} (h : DocIs w rb pm l G M) (t : Turn S w w') (hn : ∀ k, DFoot rb pm l G k → ¬ S k) : DocIs w' rb pm l G M :=
  ⟨(t.cell (a := ⟨rb, 0, none⟩) (lt_of_cell h.hdr) (hn rb (.inl rfl))).trans h.hdr, h.mp.turned t (hn pm (.inr (.inl rfl))),
   fun s hs => (h.sw s hs).turned t (hn _ (.inr (.inr ⟨s, hs, .inl rfl⟩))), fun s hs => (h.si s hs).turned t (hn _ (.inr (.inr ⟨s, hs, .inr rfl⟩))), h.ap, h.inj, h.ne⟩
theorem DocIs.foot_lt {w : World} {rb pm : Nat} {l : List (Int × Nat)} {G : Nat → DP} {M : Nat → List (Int × Int)} (h : DocIs w rb pm l G M) (k : Nat) (hk : DFoot rb pm l G k) : k < w.heap.size := by
  rcases hk with rfl | rfl | ⟨t, ht, rfl | rfl⟩
  · exact lt_of_cell h.hdr
  · exact h.mp.lt
  · exact (h.sw t ht).lt
  · exact (h.si t ht).lt

def whereD (l : List (Int × Nat)) (G : Nat → DP) (pid : Int) : Value := (mget l pid).elim zeroD fun b => encDP (G b)
theorem lookup_doc {w : World} {rb pm : Nat} {l : List (Int × Nat)} {G : Nat → DP} {M : Nat → List (Int × Int)} (h : DocIs w rb pm l G M) (pid : Int) : (Instr.lookup 77 (.map (some pm)) (.int .i64 pid) false).run Tryd.prog w = .ok (whereD l G pid) w := by
  have h1 := h.mp.run_lookup keyI Tryd.underlying77 Tryd.underlying3 (zeroD_is w) pid false
  rw [mget_dmap] at h1
  unfold whereD
  have e : ((mget l pid).map G).elim zeroD encDP = (mget l pid).elim zeroD fun b => encDP (G b) := by cases mget l pid <;> rfl
  rw [e] at h1
  exact h1
theorem lookup_num {w : World} {b : Nat} {m : List (Int × Int)} (h : MapIs w b (.int .i64) encI encN m) (k : Int) : (Instr.lookup 33 (.map (some b)) (.int .i64 k) false).run Tryd.prog w = .ok (.int .i64 ((mget m k).getD 0)) w := by
  have h1 := h.run_lookup keyI Tryd.underlying33 Tryd.underlying3 (zeroN_is w) k false
  have e : (mget m k).elim (Value.int .i64 0) encN = .int .i64 ((mget m k).getD 0) := by cases mget m k <;> rfl
  rw [e] at h1
  exact h1

/-- A map has the mark 1 at just those signals that a number's bits are. -/
def SigM (m : List (Int × Int)) (x : Int) : Prop := ∃ X : Nat, x = (X : Int) ∧ X < 512 ∧ ∀ s : Int, mget m s = if 1 ≤ s ∧ s ≤ 8 ∧ X.testBit s.toNat = true then some 1 else none
/-- Both tables say the same. -/
def Coup (l : List (Int × Nat)) (f : Nat → Pr) (G : Nat → DP) (M : Nat → List (Int × Int)) : Prop :=
  ∀ t ∈ l, (G t.2).parent = (f t.2).parent ∧ (G t.2).state = (f t.2).state ∧ (G t.2).code = (f t.2).code ∧ SigM (M (G t.2).wb) (f t.2).waits ∧ SigM (M (G t.2).ib) (f t.2).ignores
/-- What the document has behind a call. -/
def DocAfter (rb pm : Nat) (l : List (Int × Nat)) (G : Nat → DP) (w w' : World) (l' : List (Int × Nat)) (f' : Nat → Pr) : Prop :=
  ∃ G' M', DocIs w' rb pm l' G' M' ∧ Coup l' f' G' M' ∧ Turn (DFoot rb pm l G) w w' ∧ ∀ k, DFoot rb pm l' G' k → DFoot rb pm l G k ∨ w.heap.size ≤ k
theorem DocAfter.same {w w' : World} {rb pm : Nat} {l : List (Int × Nat)} {f : Nat → Pr} {G : Nat → DP} {M : Nat → List (Int × Int)} (h : DocIs w rb pm l G M) (hc : Coup l f G M) (t : Turn (fun _ => False) w w') : DocAfter rb pm l G w w' l f :=
  ⟨G, M, h.turned t (fun _ _ => id), hc, t.mono (fun _ _ h => h.elim), fun k hk => .inl hk⟩

theorem fld0 (a b c d e : Value) (w : World) : (Instr.field 76 (.agg #[a, b, c, d, e]) 0).run Tryd.prog w = .ok a w := by kernel_rfl
theorem fld1 (a b c d e : Value) (w : World) : (Instr.field 76 (.agg #[a, b, c, d, e]) 1).run Tryd.prog w = .ok b w := by kernel_rfl
theorem fld3 (a b c d e : Value) (w : World) : (Instr.field 76 (.agg #[a, b, c, d, e]) 3).run Tryd.prog w = .ok d w := by kernel_rfl
theorem fld4 (a b c d e : Value) (w : World) : (Instr.field 76 (.agg #[a, b, c, d, e]) 4).run Tryd.prog w = .ok e w := by kernel_rfl
theorem stD {l : List (Int × Nat)} {f : Nat → Pr} {G : Nat → DP} {M : Nat → List (Int × Int)} (hc : Coup l f G M) {pid : Int} {b : Nat} (hb : mget l pid = some b) : (G b).state = (f b).state := (hc _ (mem_of_mget hb)).2.1
set_option maxRecDepth 100000 in
theorem refRuns_is {w : World} {rb pm : Nat} {l : List (Int × Nat)} {f : Nat → Pr} {G : Nat → DP} {M : Nat → List (Int × Int)} (h : DocIs w rb pm l G M) (hc : Coup l f G M) (pid : Int) :
    Calls Tryd.prog 48 #[.pointer (some ⟨rb, 0, none⟩), .int .i64 pid] w fun e w' => e = .returned (.bool (stR l f pid == 1)) ∧ w = w' := by
  have lk := lookup_doc h pid
  have hh := h.hdr
  have hfd := @fld1
  unfold whereD at lk
  unfold stR
  cases hb : mget l pid with
  | none =>
    rw [hb] at lk
    simp only [Option.elim, zeroD] at lk ⊢
    clear h hc hb
    go_enter Tryd.func48, Tryd.ntmps48
    go_wp2_with fail
    go_ret
    exact ⟨rfl, rfl⟩
  | some b =>
    rw [hb] at lk
    simp only [Option.elim, encDP] at lk ⊢
    rw [stD hc hb] at lk
    clear h hc hb
    go_enter Tryd.func48, Tryd.ntmps48
    go_wp2_with fail
    go_ret
    exact ⟨rfl, rfl⟩
theorem refRuns_yes {w : World} {rb pm : Nat} {l : List (Int × Nat)} {f : Nat → Pr} {G : Nat → DP} {M : Nat → List (Int × Int)} (h : DocIs w rb pm l G M) (hc : Coup l f G M) (pid : Int) (hr : RunsIn l f pid) :
    Calls Tryd.prog 48 #[.pointer (some ⟨rb, 0, none⟩), .int .i64 pid] w fun e w' => e = .returned (.bool true) ∧ w = w' := by
  have h1 := refRuns_is h hc pid
  unfold RunsIn at hr
  rw [hr] at h1
  exact h1
theorem refRuns_no {w : World} {rb pm : Nat} {l : List (Int × Nat)} {f : Nat → Pr} {G : Nat → DP} {M : Nat → List (Int × Int)} (h : DocIs w rb pm l G M) (hc : Coup l f G M) (pid : Int) (hr : ¬ RunsIn l f pid) :
    Calls Tryd.prog 48 #[.pointer (some ⟨rb, 0, none⟩), .int .i64 pid] w fun e w' => e = .returned (.bool false) ∧ w = w' := by
  have h1 := refRuns_is h hc pid
  unfold RunsIn at hr
  have e : (stR l f pid == 1) = false := beq_eq_false_iff_ne.2 hr
  rw [e] at h1
  exact h1

def NewDoc (w : World) (e : Ending) (w' : World) (b : Nat) : Prop :=
  ∃ rb pm G M, e = .returned (.pointer (some ⟨rb, 0, none⟩)) ∧ DocIs w' rb pm [((1 : Int), b)] G M ∧ (∀ f : Nat → Pr, f b = init → Coup [((1 : Int), b)] f G M) ∧ Turn (fun _ => False) w w' ∧ ∀ k, DFoot rb pm [((1 : Int), b)] G k → w.heap.size ≤ k
set_option maxRecDepth 100000 in
theorem refNewProcs (w : World) (b : Nat) : Calls Tryd.prog 31 #[] w fun e w' => NewDoc w e w' b := by
  have hmm := @run_makeMap Tryd.prog
  have T3 : Turn (fun _ => False) (w.alloc (.map #[] 0)) (((w.alloc (.map #[] 0)).alloc (.map #[] 0)).alloc (.map #[] 0)) := ((Turn.refl _ _).alloc _).alloc _
  have HM : Hid (MapIs (((w.alloc (.map #[] 0)).alloc (.map #[] 0)).alloc (.map #[] 0)) w.heap.size (.int .i64) encI encDP ([] : List (Int × DP))) := hid ((MapIs.made w).turned T3 id)
  have HW : Hid (MapIs (((w.alloc (.map #[] 0)).alloc (.map #[] 0)).alloc (.map #[] 0)) (w.heap.size + 1) (.int .i64) encI encN ([] : List (Int × Int))) := hid (by
    have h := (MapIs.made (d := .int .i64) (enc := encI) (val := encN) (w.alloc (.map #[] 0)) : MapIs _ _ _ _ _ ([] : List (Int × Int)))
    rw [World.size_alloc] at h
    exact h.turned ((Turn.refl (fun _ => False) _).alloc _) id)
  have HI : Hid (MapIs (((w.alloc (.map #[] 0)).alloc (.map #[] 0)).alloc (.map #[] 0)) (w.heap.size + 1 + 1) (.int .i64) encI encN ([] : List (Int × Int))) := hid (by
    have h := (MapIs.made (d := .int .i64) (enc := encI) (val := encN) ((w.alloc (.map #[] 0)).alloc (.map #[] 0)) : MapIs _ _ _ _ _ ([] : List (Int × Int)))
    rw [World.size_alloc, World.size_alloc] at h
    exact h)
  have HT3 : Hid (Turn (fun _ => False) w (((w.alloc (.map #[] 0)).alloc (.map #[] 0)).alloc (.map #[] 0))) := hid ((((Turn.refl _ _).alloc _).alloc _).alloc _)
  clear T3
  go_enter Tryd.func31, Tryd.ntmps31
  go_wp2_with (refine wpList_insput rfl _ _ _ 77 3 76 rfl Tryd.underlying77 Tryd.underlying3 keyI w.heap.size rfl HM.out 1 rfl (DP.mk 0 1 0 (w.heap.size + 1) (w.heap.size + 1 + 1)) rfl ?_; intro w1 hm1 t1; have HM1 := hid hm1; have HT1 := hid t1; clear hm1 t1)
  go_ret
  have T2 : Turn (fun _ => False) w1 (w1.alloc (.cells #[.map (some w.heap.size)] 79)) := (Turn.refl _ _).alloc _
  have hs1 := HT1.out.size
  simp only [World.size_alloc] at hs1
  refine ⟨w1.heap.size, w.heap.size, fun _ => ⟨0, 1, 0, w.heap.size + 1, w.heap.size + 1 + 1⟩, fun _ => [], rfl, ⟨World.cell?_alloc_new _ _ _ _, HM1.out.turned T2 id, fun t ht => ?_, fun t ht => ?_, fun t ht => ?_, fun t ht s hs hne => ?_, by omega⟩, fun f hf t ht => ?_, ?_, fun k hk => ?_⟩
  · exact (HW.out.turned HT1.out (by omega)).turned T2 id
  · exact (HI.out.turned HT1.out (by omega)).turned T2 id
  · exact ⟨by simp only; omega, by simp only; omega, by simp only; omega⟩
  · rw [List.mem_singleton.1 ht, List.mem_singleton.1 hs] at hne
    exact absurd rfl hne
  · rw [List.mem_singleton.1 ht, hf]
    refine ⟨rfl, rfl, rfl, ⟨0, rfl, by decide, fun s => ?_⟩, ⟨0, rfl, by decide, fun s => ?_⟩⟩
    · rw [if_neg (by simp)]; rfl
    · rw [if_neg (by simp)]; rfl
  · exact HT3.out.trans' (HT1.out.trans (T2.mono fun _ _ h => h.elim)) (fun k hk e => by omega)
  · rcases hk with rfl | rfl | ⟨t, ht, rfl | rfl⟩
    · omega
    · omega
    · simp only; omega
    · simp only; omega
end Go.Proofs.YtiohpmcedfbcgabDoor
