/- Package desc: Fork. Conditions: each theorem's own premises. -/
import Derived.Test.YtiohpmcedfbcgabDoorDescFiles
namespace Go.Proofs.YtiohpmcedfbcgabDoor
open Go.RowKit
set_option linter.unusedVariables false
theorem idx_any (L : PTab) (k : Nat) (hk : k < 8) (w : World) : (Instr.index 123 (.agg #[.int .i64 (L 0).1, .bool (L 0).2, .int .i64 (L 1).1, .bool (L 1).2, .int .i64 (L 2).1, .bool (L 2).2, .int .i64 (L 3).1, .bool (L 3).2, .int .i64 (L 4).1, .bool (L 4).2, .int .i64 (L 5).1, .bool (L 5).2, .int .i64 (L 6).1, .bool (L 6).2, .int .i64 (L 7).1, .bool (L 7).2]) (.int .i64 k)).run Tryd.prog w = .ok (.agg #[.int .i64 (L k).1, .bool (L k).2]) w := by
  rcases (show k = 0 ∨ k = 1 ∨ k = 2 ∨ k = 3 ∨ k = 4 ∨ k = 5 ∨ k = 6 ∨ k = 7 by omega) with rfl | rfl | rfl | rfl | rfl | rfl | rfl | rfl
  · exact idx0 _ _ _ _ _ _ _ _ _ _ _ _ _ _ _ _ w
  · exact idx1 _ _ _ _ _ _ _ _ _ _ _ _ _ _ _ _ w
  · exact idx2 _ _ _ _ _ _ _ _ _ _ _ _ _ _ _ _ w
  · exact idx3 _ _ _ _ _ _ _ _ _ _ _ _ _ _ _ _ w
  · exact idx4 _ _ _ _ _ _ _ _ _ _ _ _ _ _ _ _ w
  · exact idx5 _ _ _ _ _ _ _ _ _ _ _ _ _ _ _ _ w
  · exact idx6 _ _ _ _ _ _ _ _ _ _ _ _ _ _ _ _ w
  · exact idx7 _ _ _ _ _ _ _ _ _ _ _ _ _ _ _ _ w
/-- One number more has an entry. -/
def bumpS (S : PS) (k : Int) : PS := (mget S.es k).elim S fun e => putS S k { e with refs := e.refs + 1 }
def forkFrom (L : PTab) : Nat → Nat → PS → PS
  | 0, _, S => S
  | f + 1, i, S => forkFrom L f (i + 1) (if 0 < (L i).1 then bumpS S ((L i).1 - 1) else S)
/-- A table is doubled: each of its entries has one number more. -/
def forkS (S : PS) (L : PTab) : PS := forkFrom L 8 0 S
def tabObj (L : PTab) : Obj := .cells #[.int .i64 (L 0).1, .bool (L 0).2, .int .i64 (L 1).1, .bool (L 1).2, .int .i64 (L 2).1, .bool (L 2).2, .int .i64 (L 3).1, .bool (L 3).2, .int .i64 (L 4).1, .bool (L 4).2, .int .i64 (L 5).1, .bool (L 5).2, .int .i64 (L 6).1, .bool (L 6).2, .int .i64 (L 7).1, .bool (L 7).2] 125
theorem tabObj_at (w : World) (L : PTab) (hp : ∀ i, i < 8 → 0 ≤ (L i).1 ∧ (L i).1 ≤ 40) : TabIs (w.alloc (tabObj L)) w.heap.size L := by
  refine ⟨fun i hi => ?_, fun i hi => ?_, fun i => World.frozen?_alloc_new _ _ _ _, hp⟩
  · rcases (show i = 0 ∨ i = 1 ∨ i = 2 ∨ i = 3 ∨ i = 4 ∨ i = 5 ∨ i = 6 ∨ i = 7 by omega) with rfl | rfl | rfl | rfl | rfl | rfl | rfl | rfl
    all_goals exact World.cell?_alloc_new _ _ _ _
  · rcases (show i = 0 ∨ i = 1 ∨ i = 2 ∨ i = 3 ∨ i = 4 ∨ i = 5 ∨ i = 6 ∨ i = 7 by omega) with rfl | rfl | rfl | rfl | rfl | rfl | rfl | rfl
    all_goals exact World.cell?_alloc_new _ _ _ _
section
variable {w w' w1 w2 : World} {fb tb om b tab : Nat} {S S' : PS} {B : Int → Nat} {P : Nat → Nat} {Ft F : Nat → Prop} {C : Nat → Nat × Int} {e e' : PE} {k n : Int} {L L' : PTab}
theorem bumpS_is (he : mget S.es k = some e) : bumpS S k = putS S k { e with refs := e.refs + 1 } := by unfold bumpS; rw [he]; rfl
theorem TabOk.put (h : TabOk S L) : TabOk (putS S k e) L := fun i hi => by
  rcases h i hi with h1 | ⟨f, hf⟩
  · exact .inl h1
  · refine .inr ?_
    show ∃ e', mget (mput S.es k e) _ = some e'
    rw [mget_mput]
    by_cases e1 : (L i).1 - 1 = k
    · exact ⟨e, if_pos e1⟩
    · exact ⟨f, by rw [if_neg e1]; exact hf⟩
set_option maxHeartbeats 2000000 in
set_option maxRecDepth 100000 in
theorem fork_is (h : FilesIs w fb tb S F) (ht : TabIs w tab L) (hok : TabOk S L) (hn : ¬ F tab) (hb : ∀ k e, mget S.es k = some e → e.refs < 999000) :
    Calls Tryd.prog 80 #[.pointer (some ⟨fb, 0, none⟩), .pointer (some ⟨tab, 0, none⟩)] w fun e w' => ∃ ub, e = .returned (.pointer (some ⟨ub, 0, none⟩)) ∧ w.heap.size ≤ ub ∧ TabIs w' ub L ∧ FilesIs w' fb tb (forkS S L) F ∧ Turn F w w' := by
  obtain ⟨om, B, P, Ft, C, hin, rfl⟩ := h
  obtain ⟨R, hR⟩ : ∃ R, forkS S L = R := ⟨_, rfl⟩
  rw [hR]
  have HR := hid hR
  have HI := hid hin
  have HT := hid ht
  have HOk := hid hok
  have HB := hid hb
  have e0 := ht.ent 0 (by omega)
  have e1 := ht.ent 1 (by omega)
  have e2 := ht.ent 2 (by omega)
  have e3 := ht.ent 3 (by omega)
  have e4 := ht.ent 4 (by omega)
  have e5 := ht.ent 5 (by omega)
  have e6 := ht.ent 6 (by omega)
  have e7 := ht.ent 7 (by omega)
  have m0 := ht.mark 0 (by omega)
  have m1 := ht.mark 1 (by omega)
  have m2 := ht.mark 2 (by omega)
  have m3 := ht.mark 3 (by omega)
  have m4 := ht.mark 4 (by omega)
  have m5 := ht.mark 5 (by omega)
  have m6 := ht.mark 6 (by omega)
  have m7 := ht.mark 7 (by omega)
  simp only [Nat.zero_mul, Nat.reduceMul, Nat.reduceAdd, Nat.zero_add] at e0 e1 e2 e3 e4 e5 e6 e7 m0 m1 m2 m3 m4 m5 m6 m7
  clear hin ht hok hn hb hR
  go_enter Tryd.func80, Tryd.ntmps80
  go_wp2_with fail
  clear e0 e1 e2 e3 e4 e5 e6 e7 m0 m1 m2 m3 m4 m5 m6 m7
  have HT0 := hid (tabObj_at w L HT.out.pos)
  have HTa : Hid (Turn (fun _ => False) w (w.alloc (tabObj L))) := hid ((Turn.refl _ _).alloc _)
  unfold tabObj at HT0 HTa
  obtain ⟨W, hW⟩ : ∃ W, w.alloc (.cells #[.int .i64 (L 0).1, .bool (L 0).2, .int .i64 (L 1).1, .bool (L 1).2, .int .i64 (L 2).1, .bool (L 2).2, .int .i64 (L 3).1, .bool (L 3).2, .int .i64 (L 4).1, .bool (L 4).2, .int .i64 (L 5).1, .bool (L 5).2, .int .i64 (L 6).1, .bool (L 6).2, .int .i64 (L 7).1, .bool (L 7).2] 125) = W := ⟨_, rfl⟩
  rw [hW] at HT0 HTa ⊢
  clear hW
  go_loopg [13] 8 (fun gl i wr => ∃ (k : Nat) (Si : PS), k + gl = 8 ∧ i = .int .i64 k ∧ Hid (forkFrom L gl k Si = R) ∧ Hid (FilesIn wr fb tb om Si B P Ft C) ∧ Hid (∀ j e, mget Si.es j = some e → e.refs < 999000 + k) ∧ Hid (TabOk Si L) ∧ Hid (TabIs wr w.heap.size L) ∧ Hid (Turn (fun j => CFoot C j) w wr))
  case atStart => exact ⟨0, S, by omega, rfl, HR, hid (HI.out.turned HTa.out (fun _ _ => id)), HB, HOk, HT0, hid (no_turn HTa.out)⟩
  case round =>
    obtain ⟨k, Si, hk, rfl, hF, hI, hB, hO, hT, ht⟩ := hrel
    clear HR HB HOk HT0 HTa
    by_cases hk8 : k < 8
    · have hk' : (k : Int) < 8 := by omega
      obtain ⟨g, rfl⟩ : ∃ g, gk = g + 1 := ⟨7 - k, by omega⟩
      have ix := idx_any L k hk8 wr
      have HF2 : Hid (forkFrom L g (k + 1) (if 0 < (L k).1 then bumpS Si ((L k).1 - 1) else Si) = R) := hF
      have HA : Hid (Turn (fun _ => False) wr (wr.alloc (.cells #[.int .i64 (L k).1, .bool (L k).2] 122))) := hid ((Turn.refl _ _).alloc _)
      clear hF
      by_cases hz : 0 < (L k).1
      · rw [if_pos hz] at HF2
        obtain ⟨e, he⟩ := (hO.out k hk8).resolve_left (by omega)
        have hps := HT.out.pos k hk8
        have hw : IntKind.i64.wrap ((L k).1 - 1) = (L k).1 - 1 := IntWalk.i64_in _ (by omega)
        have hrf := hB.out _ e he
        have hrw : IntKind.i64.wrap ((e.refs : Int) + 1) = (e.refs : Int) + 1 := IntWalk.i64_in _ (by omega)
        rw [bumpS_is he] at HF2
        have HI4 := hid (hI.out.turned HA.out (fun _ _ => id))
        have lk := (HI4.out.turned (X := fun _ => False) (Turn.refl _ _).drew (fun _ _ => id)).look he
        have c5 := (HI4.out.en _ _ he).c5
        have z5 := (HI4.out.en _ _ he).fz 5
        have h1 := HI4.out.h1
        have HE := hid he
        have hne : B ((L k).1 - 1) ≠ wr.heap.size := by have := (hI.out.en _ _ he).lt; omega
        clear he hps
        go_wp2_with fail
        go_region
        all_goals go_wp2_with fail
        all_goals go_roundg g
        all_goals first
          | (case measure => omega)
          | skip
        case rel =>
          have hB0 : CFoot C (B ((L k).1 - 1)) := HI4.out.foot HE.out
          have hlow := HI.out.low _ hB0
          refine ⟨k + 1, _, by omega, by go_num, HF2, hid ((HI4.out.put HE.out ((HI4.out.en _ _ HE.out).setRefs (z := (e.refs : Int) + 1) (c := e.refs + 1) (by omega)) (turn_own _ _ _ _)).turned (X := fun _ => False) (Turn.refl _ _).drew (fun _ _ => id)), hid (fun j f hf => ?_), hid hO.out.put, hid (((hT.out.turned HA.out id).turned (turn_own _ _ _ _) (fun x => by have x : w.heap.size = _ := x; omega)).turned (S := fun _ => False) (Turn.refl _ _).drew id), hid (((ht.out.trans (no_turn HA.out)).trans ((Turn.refl (fun j => CFoot C j) _).setCell _ _ (fun _ => hB0))).drew)⟩
          have hf : mget (mput Si.es _ _) j = some f := hf
          rw [mget_mput] at hf
          split at hf
          · cases hf
            show e.refs + 1 < _
            omega
          · have := hB.out j f hf; omega
      · rw [if_neg hz] at HF2
        go_wp2_with fail
        go_roundg g
        case measure => omega
        case rel => exact ⟨k + 1, Si, by omega, by go_num, HF2, hid (hI.out.turned HA.out (fun _ _ => id)), hid (fun j e he => by have := hB.out j e he; omega), hO, hid (hT.out.turned HA.out id), hid (ht.out.trans (no_turn HA.out))⟩
    · have hk' : ¬ (k : Int) < 8 := by omega
      obtain rfl : k = 8 := by omega
      obtain rfl : gk = 0 := by omega
      have HF : Hid (Si = R) := hF
      clear hF
      go_wp2_with fail
      go_ret
      refine ⟨_, rfl, Nat.le_refl _, hT.out, ?_, ht.out⟩
      rw [← HF.out]
      exact hI.out.is
end
end Go.Proofs.YtiohpmcedfbcgabDoor
