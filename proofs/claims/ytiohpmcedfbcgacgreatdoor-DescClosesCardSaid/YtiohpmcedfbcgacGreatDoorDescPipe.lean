/- Package desc: Pipe. Conditions: each theorem's own premises. -/
import Derived.Test.YtiohpmcedfbcgacGreatDoorDescJoint
import Derived.Test.YtiohpmcedfbcgacGreatDoorDescTab
import Derived.Test.YtiohpmcedfbcgacGreatDoorPipe
namespace Go.Proofs.YtiohpmcedfbcgacGreatDoor
open Go.RowKit
set_option linter.unusedVariables false
def pipeE (S : PS) (L : PTab) : Int := if 6 < usedL L ∨ 38 < S.es.length then 12 else 0
def newP : PP := ⟨ByteArray.empty, 1, 1⟩
def moreS (S : PS) (q : PP) : PS := { S with ps := S.ps ++ [q] }
def pipeS1 (S : PS) : PS := putS (moreS S newP) (freeE S.es) ⟨2, 1, 0, S.ps.length, 0, 1⟩
def pipeS2 (S : PS) : PS := putS (pipeS1 S) (freeE (pipeS1 S).es) ⟨3, 2, 0, S.ps.length, 0, 1⟩
def pipeL1 (S : PS) (L : PTab) : PTab := tset L (leastL L).toNat ((freeE S.es : Int) + 1, false)
def pipeL2 (S : PS) (L : PTab) : PTab := tset (pipeL1 S L) (leastL (pipeL1 S L)).toNat ((freeE (pipeS1 S).es : Int) + 1, false)
def pipedS (S : PS) (L : PTab) : PS := if pipeE S L = 0 then pipeS2 S else S
def pipedL (S : PS) (L : PTab) : PTab := if pipeE S L = 0 then pipeL2 S L else L
def pipeK1 (S : PS) (L : PTab) : Int := if pipeE S L = 0 then leastL L else 0
def pipeK2 (S : PS) (L : PTab) : Int := if pipeE S L = 0 then leastL (pipeL1 S L) else 0
def updP (P : Nat → Nat) (i c : Nat) : Nat → Nat := fun j => if j = i then c else P j
section
variable {W : Base} {w w' w1 w2 : World} {fb tb om b c tab : Nat} {S S' : PS} {B : Int → Nat} {P : Nat → Nat} {Ft F : Nat → Prop} {C : Nat → Nat × Int} {e e' : PE} {k n : Int} {L L' : PTab} {ts : List (Nat × PTab)} {i : Nat} {q : PP}
theorem FilesIn.pipeNew (h : FilesIn w fb tb om S B P Ft C) (hS : DOk S) (hp : PipeIs w' c q.b q.e0 q.e1) (t : Turn (fun j => j = c) w w') (hc : ¬ CFoot C c) :
    FilesIn w' fb tb om (moreS S q) B (updP P S.ps.length c) Ft (updC C c (4, (S.ps.length : Int))) := by
  have hno : ∀ b x, C b = x → x ≠ (0, 0) → ¬ b = c := fun b x h1 h2 h3 => hc (by rw [← h3]; show C b ≠ _; rw [h1]; exact h2)
  have hf : ∀ b x, C b = x → x ≠ (0, 0) → updC C c (4, (S.ps.length : Int)) b = x := fun b x h1 h2 => by rw [updC_old (by show C b ≠ _; rw [h1]; exact h2) hc]; exact h1
  have hget : ∀ (j : Nat) (r : PP), (S.ps ++ [q])[j]? = some r → (j = S.ps.length ∧ r = q) ∨ (j ≠ S.ps.length ∧ S.ps[j]? = some r) := fun j r hr => by
    rcases Nat.lt_or_ge j S.ps.length with hj | hj
    · rw [List.getElem?_append_left hj] at hr; exact .inr ⟨by omega, hr⟩
    · rw [List.getElem?_append_right hj] at hr
      cases hz : j - S.ps.length with
      | zero => rw [hz] at hr; exact .inl ⟨by omega, (Option.some.inj hr).symm⟩
      | succ m => rw [hz] at hr; cases hr
  have hpv : ∀ m e, mget S.es m = some e → pipeV (updP P S.ps.length c) e = pipeV P e := fun m e he => by
    unfold pipeV
    by_cases h1 : e.kind = 1
    · rw [if_pos h1, if_pos h1]
    · rw [if_neg h1, if_neg h1]
      have hE := (hS.ent m e he).2
      obtain ⟨r, hr⟩ : ∃ r, S.ps[e.pid]? = some r := by
        rcases hE with h2 | ⟨_, _, r, hr, _⟩ | ⟨_, _, r, hr, _⟩
        · exact absurd h2.1 h1
        · exact ⟨r, hr⟩
        · exact ⟨r, hr⟩
      have hlt : e.pid < S.ps.length := (List.getElem?_eq_some_iff.1 hr).1
      unfold updP
      rw [if_neg (by omega)]
  refine ⟨(t.cell (a := ⟨fb, 0, none⟩) (lt_of_cell h.h0) (hno _ _ h.cf (by simp))).trans h.h0, (t.cell (a := ⟨fb, 1, none⟩) (lt_of_cell h.h1) (hno _ _ h.cf (by simp))).trans h.h1, h.tr.turned t (fun j hj => hno _ _ (h.ct j hj) (by simp)), h.mp.turned t (hno _ _ h.cm (by simp)), fun m e he => ?_, fun j r hr => ?_, hf _ _ h.cf (by simp), hf _ _ h.cm (by simp), fun m e he => hf _ _ (h.ce m e he) (by simp), fun j r hr => ?_, fun j hj => hf _ _ (h.ct j hj) (by simp), fun j hj => ?_⟩
  · have h1 := (h.en m e he).turned t (hno _ _ (h.ce m e he) (by simp))
    exact { h1 with c3 := by rw [hpv m e he]; exact h1.c3 }
  · rcases hget j r hr with ⟨rfl, rfl⟩ | ⟨h1, h2⟩
    · show PipeIs w' (if _ = _ then c else P _) _ _ _
      rw [if_pos rfl]; exact hp
    · show PipeIs w' (if j = _ then c else P j) _ _ _
      rw [if_neg h1]
      exact (h.pp j r h2).turned t (hno _ _ (h.cp j r h2) (by simp))
  · rcases hget j r hr with ⟨rfl, rfl⟩ | ⟨h1, h2⟩
    · show updC C c _ (if _ = _ then c else P _) = _
      rw [if_pos rfl]; exact if_pos rfl
    · show updC C c _ (if j = _ then c else P j) = _
      rw [if_neg h1]
      exact hf _ _ (h.cp j r h2) (by simp)
  · by_cases e1 : j = c
    · rw [e1]; exact hp.lt
    · exact Nat.lt_of_lt_of_le (h.low j (by have hj : updC C c _ j ≠ _ := hj; unfold updC at hj; rw [if_neg e1] at hj; exact hj)) t.size
theorem pipe_room (hp : ∀ j, j < 8 → 0 ≤ (L j).1 ∧ (L j).1 ≤ 40) (h : pipeE S L = 0) :
    (∃ j : Nat, leastL L = j ∧ j < 8 ∧ (L j).1 = 0) ∧ (∃ j : Nat, leastL (pipeL1 S L) = j ∧ j < 8 ∧ (pipeL1 S L j).1 = 0) ∧ usedL L ≤ 6 ∧ S.es.length ≤ 38 := by
  have h6 : usedL L ≤ 6 ∧ S.es.length ≤ 38 := by
    unfold pipeE at h
    by_cases h1 : 6 < usedL L ∨ 38 < S.es.length
    · rw [if_pos h1] at h; cases h
    · omega
  obtain ⟨j, hl, hj, hjz⟩ := least_room (fun m hm => (hp m hm).1) (show usedL L < 8 by omega)
  refine ⟨⟨j, hl, hj, hjz⟩, ?_, h6⟩
  have hu := usedL_set (L := L) (x := ((freeE S.es : Int) + 1, false)) hj
  have h1 : pipeL1 S L = tset L j ((freeE S.es : Int) + 1, false) := by unfold pipeL1; rw [hl]; rfl
  rw [h1]
  refine least_room (fun m hm => ?_) ?_
  · by_cases e : m = j
    · rw [e, tset_self]; show (0 : Int) ≤ (freeE S.es : Int) + 1; omega
    · rw [tset_other L _ e]; exact (hp m hm).1
  · have h2 : usX ((freeE S.es : Int) + 1, false) = 1 := if_pos (by show (0 : Int) < (freeE S.es : Int) + 1; omega)
    omega
theorem pipe_S1 (hS : DOk S) (hlen : S.es.length ≤ 38) : DOk (pipeS1 S) ∧ (pipeS1 S).es.length < 40 ∧ mget S.es (freeE S.es : Int) = none ∧ freeE S.es < 40 ∧ (∀ m e, mget (pipeS1 S).es m = some e → e.kind = 2 → e.pid = S.ps.length → m = freeE S.es) ∧ (∀ m e, mget (pipeS1 S).es m = some e → e.kind = 3 → e.pid ≠ S.ps.length) := by
  obtain ⟨hK40, hfree, _⟩ := freeE_spec hS.nd (by omega)
  have hlast : (S.ps ++ [newP])[S.ps.length]? = some newP := by rw [List.getElem?_append_right (Nat.le_refl _), Nat.sub_self]; rfl
  have hpid : ∀ m f, mget S.es m = some f → f.kind ≠ 1 → f.pid < S.ps.length := fun m f hf hk => by
    rcases (hS.ent m f hf).2 with h1 | ⟨_, _, r, hr, _⟩ | ⟨_, _, r, hr, _⟩
    · exact absurd h1.1 hk
    · exact (List.getElem?_eq_some_iff.1 hr).1
    · exact (List.getElem?_eq_some_iff.1 hr).1
  have hold : ∀ {ps : List PP} (j : Nat) (r : PP), ps[j]? = some r → (ps ++ [newP])[j]? = some r := fun j r hr => by rw [List.getElem?_append_left (List.getElem?_eq_some_iff.1 hr).1]; exact hr
  have hM : DOk (moreS S newP) := by
    refine ⟨hS.nd, hS.keys, fun m f hf => ?_, hS.size, hS.one, fun j r hr => ?_, hS.held⟩
    · have hE := hS.ent m f hf
      refine ⟨hE.1, ?_⟩
      rcases hE.2 with h1 | ⟨h1, h2, r, hr, h3⟩ | ⟨h1, h2, r, hr, h3⟩
      · exact .inl h1
      · exact .inr (.inl ⟨h1, h2, r, hold _ r hr, h3⟩)
      · exact .inr (.inr ⟨h1, h2, r, hold _ r hr, h3⟩)
    · rcases Nat.lt_or_ge j S.ps.length with hj | hj
      · have hr : (S.ps ++ [newP])[j]? = some r := hr
        rw [List.getElem?_append_left hj] at hr
        exact hS.pipes j r hr
      · have hr : (S.ps ++ [newP])[j]? = some r := hr
        rw [List.getElem?_append_right hj] at hr
        cases hz : j - S.ps.length with
        | zero => rw [hz] at hr; cases hr; exact ⟨by show (0 : Nat) ≤ 16; decide, .inr rfl, .inr rfl⟩
        | succ m => rw [hz] at hr; cases hr
  have hget : ∀ m f, mget (pipeS1 S).es m = some f → (m = freeE S.es ∧ f = ⟨2, 1, 0, S.ps.length, 0, 1⟩) ∨ (m ≠ freeE S.es ∧ mget S.es m = some f) := fun m f hf => by
    have hf : mget (mput S.es (freeE S.es : Int) ⟨2, 1, 0, S.ps.length, 0, 1⟩) m = some f := hf
    rw [mget_mput] at hf
    by_cases e : m = freeE S.es
    · rw [if_pos e] at hf; cases hf; exact .inl ⟨e, rfl⟩
    · rw [if_neg e] at hf; exact .inr ⟨e, hf⟩
  refine ⟨DOk.new (S := moreS S newP) (S' := moreS S newP) hM hfree (by omega) (by show S.es.length < 40; omega) ⟨⟨by show 1 ≤ 1; decide, by show 1 ≤ 1000000; decide, Int.le_refl _, by show (0 : Int) ≤ 200; decide⟩, .inr (.inl ⟨rfl, rfl, newP, hlast, rfl⟩)⟩ rfl (fun _ m f hf hk hp => ?_) rfl (fun m f hf hE => hE) (fun n p hp => ?_), ?_, hfree, hK40, fun m f hf hk hp => ?_, fun m f hf hk hp => ?_⟩
  · have h1 := hpid m f hf (by rw [hk]; show (2 : Int) ≠ 1; decide)
    have h2 : f.pid = S.ps.length := hp
    omega
  · rw [show oneOf n ⟨2, 1, 0, S.ps.length, 0, 1⟩ = 0 from if_neg (fun h => by have := h.1; exact absurd this (by show ¬ (2 : Int) = 1; decide)), Nat.add_zero]
    exact hS.held n p hp
  · show (mput S.es (freeE S.es : Int) _).length < 40
    rw [mput_length, hfree]
    show S.es.length + 1 < 40
    omega
  · rcases hget m f hf with ⟨h1, _⟩ | ⟨_, h2⟩
    · exact h1
    · have := hpid m f h2 (by rw [hk]; decide); omega
  · rcases hget m f hf with ⟨_, rfl⟩ | ⟨_, h2⟩
    · cases hk
    · have := hpid m f h2 (by rw [hk]; decide); omega
theorem pipe_S2 (hS : DOk S) (hlen : S.es.length ≤ 38) : DOk (pipeS2 S) ∧ mget (pipeS1 S).es (freeE (pipeS1 S).es : Int) = none ∧ freeE (pipeS1 S).es < 40 := by
  obtain ⟨h1, h2, h3, h4, h5, h6⟩ := pipe_S1 hS hlen
  obtain ⟨hK40, hfree, _⟩ := freeE_spec h1.nd h2
  have hlast : (S.ps ++ [newP])[S.ps.length]? = some newP := by rw [List.getElem?_append_right (Nat.le_refl _), Nat.sub_self]; rfl
  refine ⟨DOk.new (S := pipeS1 S) (S' := pipeS1 S) h1 hfree (by omega) h2 ⟨⟨by show 1 ≤ 1; decide, by show 1 ≤ 1000000; decide, Int.le_refl _, by show (0 : Int) ≤ 200; decide⟩, .inr (.inr ⟨rfl, rfl, newP, hlast, rfl⟩)⟩ rfl (fun _ m f hf hk hp => h6 m f hf hk hp) rfl (fun m f hf hE => hE) (fun n p hp => ?_), hfree, hK40⟩
  rw [show oneOf n ⟨3, 2, 0, S.ps.length, 0, 1⟩ = 0 from if_neg (fun h => by have := h.1; exact absurd this (by show ¬ (3 : Int) = 1; decide)), Nat.add_zero]
  exact h1.held n p hp
theorem joint_new (h : Joint S ts) (hi : ts[i]? = some (tab, L)) {j : Nat} (hj : j < 8) (hjz : (L j).1 = 0) {K : Nat} (hK : K < 40) (hfree : mget S.es (K : Int) = none) (hes : S'.es = S.es) (he : e.refs = 1) : Joint (putS S' (K : Int) e) (ts.set i (tab, tset L j ((K : Int) + 1, false))) := by
  refine h.step hi hj (by show 0 ≤ (K : Int) + 1 ∧ (K : Int) + 1 ≤ 40; omega) (fun m hm => ?_)
  have h0 : hitX (L j) m = 0 := if_neg (by omega)
  rw [h0, refsOf_put]
  unfold hitX
  by_cases hmk : m = K
  · rw [if_pos hmk, if_pos (by show (K : Int) + 1 = m + 1; omega), he]
    have : refsOf S m = 0 := by unfold refsOf; rw [hmk, hfree]; rfl
    rw [this]
  · rw [if_neg hmk, if_neg (by show ¬ (K : Int) + 1 = m + 1; omega), refsOf_es hes]
theorem joint_pipe (h : Joint S ts) (hS : DOk S) (hi : ts[i]? = some (tab, L)) : DOk (pipedS S L) ∧ Joint (pipedS S L) (ts.set i (tab, pipedL S L)) := by
  unfold pipedS pipedL
  by_cases hE : pipeE S L = 0
  · rw [if_pos hE, if_pos hE]
    have hp := fun j hj => h.pos i _ hi j hj
    obtain ⟨⟨j, hl, hj, hjz⟩, ⟨j2, hl2, hj2, hjz2⟩, h6, hlen⟩ := pipe_room (S := S) hp hE
    obtain ⟨a1, a2, a3, a4, a5, a6⟩ := pipe_S1 hS hlen
    obtain ⟨b1, b2, b3⟩ := pipe_S2 hS hlen
    refine ⟨b1, ?_⟩
    have e1 : pipeL1 S L = tset L j ((freeE S.es : Int) + 1, false) := by unfold pipeL1; rw [hl]; rfl
    have e2 : pipeL2 S L = tset (pipeL1 S L) j2 ((freeE (pipeS1 S).es : Int) + 1, false) := by unfold pipeL2; rw [hl2]; rfl
    have g1 : Joint (pipeS1 S) (ts.set i (tab, pipeL1 S L)) := by rw [e1]; exact joint_new h hi hj hjz a4 a3 (S' := moreS S newP) rfl rfl
    have hi2 : (ts.set i (tab, pipeL1 S L))[i]? = some (tab, pipeL1 S L) := by rw [List.getElem?_set_self (by rcases Nat.lt_or_ge i ts.length with h1 | h1; exact h1; rw [List.getElem?_eq_none h1] at hi; cases hi)]
    have g2 := joint_new g1 hi2 hj2 hjz2 b3 b2 (S' := pipeS1 S) (e := ⟨3, 2, 0, S.ps.length, 0, 1⟩) rfl rfl
    rw [List.set_set] at g2
    rw [e2]
    exact g2
  · rw [if_neg hE, if_neg hE, set_same hi]
    exact ⟨hS, h⟩
def pentObj (kind prot : Int) (c : Nat) : Obj := .cells #[.int .i64 kind, .int .i64 prot, .int .i64 0, .pointer (some ⟨c, 0, none⟩), .int .i64 0, .int .i64 0] 206
theorem pentObj_at (w : World) (P : Nat → Nat) (kind prot : Int) (c pid : Nat) (hk : kind ≠ 1) (hP : P pid = c) : EntAt (w.alloc (pentObj kind prot c)) w.heap.size P ⟨kind, prot, 0, pid, 0, 0⟩ :=
  ⟨World.cell?_alloc_new _ _ _ _, World.cell?_alloc_new _ _ _ _, World.cell?_alloc_new _ _ _ _, by
    rw [show pipeV P ⟨kind, prot, 0, pid, 0, 0⟩ = .pointer (some ⟨c, 0, none⟩) from by unfold pipeV; rw [if_neg hk, ← hP]; rfl]
    exact World.cell?_alloc_new _ _ _ _, World.cell?_alloc_new _ _ _ _, World.cell?_alloc_new _ _ _ _, fun i => World.frozen?_alloc_new _ _ _ _⟩
def pipeObj : Obj := .cells #[.string ⟨#[]⟩, .int .i64 0, .int .i64 0] 334
theorem pipeObj_at (w : World) : PipeIs (w.alloc pipeObj) w.heap.size ByteArray.empty 0 0 :=
  ⟨World.cell?_alloc_new _ _ _ _, World.cell?_alloc_new _ _ _ _, World.cell?_alloc_new _ _ _ _, fun i => World.frozen?_alloc_new _ _ _ _⟩
set_option maxHeartbeats 4000000 in
set_option maxRecDepth 100000 in
theorem pipe_is (h : FilesIs w fb tb S F) (hS : DOk S) (ht : TabIs w tab L) (hn : ¬ F tab) :
    Calls Tryz.prog 121 #[.pointer (some ⟨fb, 0, none⟩), .pointer (some ⟨tab, 0, none⟩)] w fun e w' => e = .returned (.tuple #[.int .i64 (pipeK1 S L), .int .i64 (pipeK2 S L), TErr (pipeE S L)]) ∧ FilesTo fb tb tab F w w' (pipedS S L) (pipedL S L) := by
  obtain ⟨om, B, P, Ft, C, hin, rfl⟩ := h
  have HU := hid (used_is ht)
  have HI := hid hin
  have HT := hid ht
  have HN := hid hn
  by_cases hE : pipeE S L = 0
  · obtain ⟨⟨j, hl, hj, hjz⟩, ⟨j2, hl2, hj2, hjz2⟩, h6, hlen⟩ := pipe_room (S := S) ht.pos hE
    obtain ⟨a1, a2, a3, a4, a5, a6⟩ := pipe_S1 hS hlen
    have e1 : pipedS S L = pipeS2 S := if_pos hE
    have e2 : pipedL S L = pipeL2 S L := if_pos hE
    have e3 : pipeK1 S L = j := by unfold pipeK1; rw [if_pos hE, hl]
    have e4 : pipeK2 S L = j2 := by unfold pipeK2; rw [if_pos hE, hl2]
    have e5 : pipeL1 S L = tset L j ((freeE S.es : Int) + 1, false) := by unfold pipeL1; rw [hl]; rfl
    have e6 : pipeL2 S L = tset (pipeL1 S L) j2 ((freeE (pipeS1 S).es : Int) + 1, false) := by unfold pipeL2; rw [hl2]; rfl
    rw [hE, e1, e2, e3, e4, e6]
    have HE5 := hid e5
    have HL1 := hid hl
    have HL2 := hid hl2
    have HS := hid hS
    have HS1 := hid a1
    have HA2 := hid a2
    have h6' : ¬ (6 : Int) < usedL L := by omega
    have hl38 : ¬ (38 : Int) < S.es.length := by omega
    clear hin hS ht hn hE e1 e2 e3 e4 e5 e6 hl hl2 a1 a2 a3 a4 a5 a6 h6 hjz hjz2
    go_enter Tryz.func121, Tryz.ntmps121
    go_upto_region 3 with (go_at_call 44; refine HU.out.mono ?_; rintro e w1 ⟨rfl, t1⟩; have HT1 := hid t1; clear t1; have hh := (HI.out.turned HT1.out (fun _ _ => id)).h1; have hln := (HI.out.turned HT1.out (fun _ _ => id)).mp.run_len Tryz.underlying201 3; rw [show (keysE B S.es).length = S.es.length from List.length_map ..] at hln)
    clear hh hln
    have HI1 := hid (HI.out.turned HT1.out (fun _ _ => id))
    have HTb1 := hid (HT.out.turned HT1.out id)
    have HP0 := hid (pipeObj_at w1)
    have HTa : Hid (Turn (fun _ => False) w1 (w1.alloc pipeObj)) := hid ((Turn.refl _ _).alloc _)
    unfold pipeObj at HP0 HTa
    obtain ⟨c, hc⟩ : ∃ c, w1.heap.size = c := ⟨_, rfl⟩
    have HC := hid hc
    rw [hc] at HP0
    go_upto_region 4 with fail
    clear hc
    go_upto_region 5 with (go_at_call 224; refine (open2 HP0.out (by decide) (by decide)).mono ?_; rintro e w2 ⟨rfl, hp, t⟩; have HP2 := hid hp; have HT2 := hid t; clear hp t)
    go_upto_region 6 with (go_at_call 224; refine (open3 HP2.out (by decide) (by decide)).mono ?_; rintro e w3 ⟨rfl, hp, t⟩; have HP3 := hid hp; have HT3 := hid t; clear hp t)
    have hnc : ¬ CFoot C c := fun hx => by have := HI1.out.low _ hx; have := HC.out; omega
    have tp : Turn (fun j => j = c) w1 w3 := ((no_turn HTa.out).trans HT2.out).trans HT3.out
    have hi3 : FilesIn w3 fb tb om (moreS S newP) B (updP P S.ps.length c) Ft (updC C c (4, (S.ps.length : Int))) := HI1.out.pipeNew HS.out (q := newP) HP3.out tp hnc
    have hct : c ≠ tab := fun hx => by have := HTb1.out.lt; have := HC.out; omega
    have ht3 : TabIs w3 tab L := HTb1.out.turned tp (fun hx => hct hx.symm)
    have hn3 : ¬ CFoot (updC C c (4, (S.ps.length : Int))) tab := fun hx => by
      have hx : updC C c _ tab ≠ _ := hx
      unfold updC at hx
      rw [if_neg (fun e => hct e.symm)] at hx
      exact HN.out hx
    have hcl : c < w3.heap.size := HP3.out.lt
    have HI3 := hid hi3
    have HTb3 := hid ht3
    have HN3 := hid hn3
    have HTp := hid tp
    have ta : Turn (fun _ => False) w3 (w3.alloc (pentObj 2 1 c)) := (Turn.refl _ _).alloc _
    have hpc : updP P S.ps.length c S.ps.length = c := if_pos rfl
    have hc3 : ¬ CFoot (updC C c (4, (S.ps.length : Int))) w3.heap.size := fun hx => by have := hi3.low _ hx; omega
    have HA := hid (add_is (hi3.turned ta (fun _ _ => id)) HS.out.nd (ht3.turned ta id) hn3 (pentObj_at w3 (updP P S.ps.length c) 2 1 c S.ps.length (by decide) hpc) hc3 (fun hx => by have := ht3.lt; omega) HL1.out hj (by show S.es.length < 40; omega))
    have HTa3 := hid ta
    unfold pentObj at HA HTa3
    clear hnc tp hi3 hct ht3 hn3 hcl ta hpc hc3
    go_upto_region 9 with (go_at_call 221; refine HA.out.mono ?_; rintro e w5 ⟨rfl, hi5, ht5, t5⟩; have HI5 := hid hi5; have HTb5 := hid ht5; have HT5 := hid t5; clear hi5 ht5 t5)
    have hk1 : (freeE (moreS S newP).es) = freeE S.es := rfl
    rw [hk1] at HI5
    have hi5 : FilesIn w5 fb tb om (pipeS1 S) (updI B (freeE S.es) w3.heap.size) (updP P S.ps.length c) Ft (updC (updC C c (4, (S.ps.length : Int))) w3.heap.size (3, (freeE S.es : Int))) := HI5.out
    have ht5 : TabIs w5 tab (pipeL1 S L) := by rw [HE5.out]; exact HTb5.out
    have ht3lt : tab < w3.heap.size := HTb3.out.lt
    have hn5 : ¬ CFoot (updC (updC C c (4, (S.ps.length : Int))) w3.heap.size (3, (freeE S.es : Int))) tab := fun hx => by
      have hx : updC _ w3.heap.size _ tab ≠ _ := hx
      unfold updC at hx
      rw [if_neg (by omega)] at hx
      exact HN3.out hx
    have hs35 : w3.heap.size ≤ w5.heap.size := Nat.le_trans HTa3.out.size HT5.out.size
    have ta : Turn (fun _ => False) w5 (w5.alloc (pentObj 3 2 c)) := (Turn.refl _ _).alloc _
    have hpc : updP P S.ps.length c S.ps.length = c := if_pos rfl
    have hc5 : ¬ CFoot (updC (updC C c (4, (S.ps.length : Int))) w3.heap.size (3, (freeE S.es : Int))) w5.heap.size := fun hx => by have := hi5.low _ hx; omega
    have HA5 := hid (add_is (hi5.turned ta (fun _ _ => id)) HS1.out.nd (ht5.turned ta id) hn5 (pentObj_at w5 (updP P S.ps.length c) 3 2 c S.ps.length (by decide) hpc) hc5 (fun hx => by have := ht5.lt; omega) HL2.out hj2 HA2.out)
    have HTa5 := hid ta
    have HN5 := hid hn5
    have HIs5 := hid hi5
    have HTs5 := hid ht5
    have HSz := hid hs35
    have HLt := hid ht3lt
    unfold pentObj at HA5 HTa5
    clear hk1 hi5 ht5 ht3lt hn5 hs35 ta hpc hc5
    go_wp2_with (go_at_call 221; refine HA5.out.mono ?_; rintro e w7 ⟨rfl, hi7, ht7, t7⟩; have HI7 := hid hi7; have HTb7 := hid ht7; have HT7 := hid t7; clear hi7 ht7 t7)
    go_returns
    have hs1 : w.heap.size ≤ w1.heap.size := HT1.out.size
    have hs3 : w1.heap.size ≤ w3.heap.size := HTp.out.size
    have hcs := HC.out
    have hfoot3 : ∀ j, CFoot (updC C c (4, (S.ps.length : Int))) j → CFoot C j ∨ w.heap.size ≤ j := fun j hj => by
      by_cases e : j = c
      · exact .inr (by omega)
      · exact .inl (by have hj : updC C c _ j ≠ _ := hj; unfold updC at hj; rw [if_neg e] at hj; exact hj)
    have hfoot5 : ∀ j, CFoot (updC (updC C c (4, (S.ps.length : Int))) w3.heap.size (3, (freeE S.es : Int))) j → CFoot C j ∨ w.heap.size ≤ j := fun j hj => by
      by_cases e : j = w3.heap.size
      · exact .inr (by omega)
      · exact hfoot3 j (by have hj : updC _ w3.heap.size _ j ≠ _ := hj; unfold updC at hj; rw [if_neg e] at hj; exact hj)
    have X : Nat → Prop := fun j => CFoot C j ∨ j = tab
    have tA : Turn (fun j => CFoot C j ∨ j = tab) w w3 := (no_turn HT1.out).trans' HTp.out (fun i hi e => by omega)
    have tB : Turn (fun j => CFoot C j ∨ j = tab) w w5 := (tA.trans (no_turn HTa3.out)).trans' HT5.out (fun i hi hx => by
      rcases hx with hx | hx | hx
      · rcases hfoot3 i hx with h4 | h4
        · exact .inl h4
        · omega
      · exact .inr hx
      · omega)
    have tC : Turn (fun j => CFoot C j ∨ j = tab) w w7 := (tB.trans (no_turn HTa5.out)).trans' HT7.out (fun i hi hx => by
      rcases hx with hx | hx | hx
      · rcases hfoot5 i hx with h4 | h4
        · exact .inl h4
        · omega
      · exact .inr hx
      · have := HSz.out; omega)
    refine ⟨rfl, .of HI7.out HTb7.out tC (fun i hi => ?_) (fun hx => ?_)⟩
    · by_cases e : i = w5.heap.size
      · exact .inr (by have := HSz.out; omega)
      · exact hfoot5 i (by have hi : updC _ w5.heap.size _ i ≠ _ := hi; unfold updC at hi; rw [if_neg e] at hi; exact hi)
    · have hx : updC _ w5.heap.size _ tab ≠ _ := hx
      unfold updC at hx
      have := HLt.out
      have := HSz.out
      rw [if_neg (by omega)] at hx
      exact HN5.out hx
  · have e0 : pipeE S L = 12 := by
      unfold pipeE at hE ⊢
      by_cases h1 : 6 < usedL L ∨ 38 < S.es.length
      · exact if_pos h1
      · rw [if_neg h1] at hE; exact absurd rfl hE
    have hcase : 6 < usedL L ∨ 38 < S.es.length := by
      unfold pipeE at hE
      by_cases h1 : 6 < usedL L ∨ 38 < S.es.length
      · exact h1
      · rw [if_neg h1] at hE; exact absurd rfl hE
    have e1 : pipedS S L = S := if_neg hE
    have e2 : pipedL S L = L := if_neg hE
    have e3 : pipeK1 S L = 0 := if_neg hE
    have e4 : pipeK2 S L = 0 := if_neg hE
    rw [e0, e1, e2, e3, e4]
    clear hin hS ht hn hE e0 e1 e2 e3 e4
    by_cases h6 : 6 < usedL L
    · have h6' : (6 : Int) < usedL L := by omega
      clear hcase
      go_enter Tryz.func121, Tryz.ntmps121
      go_wp2_with (go_at_call 44; refine HU.out.mono ?_; rintro e w1 ⟨rfl, t1⟩; have HT1 := hid t1; clear t1)
      go_returns
      exact ⟨rfl, .same (HI.out.turned HT1.out (fun _ _ => id)) (HT.out.turned HT1.out id) (no_turn HT1.out) HN.out⟩
    · have h6' : ¬ (6 : Int) < usedL L := by omega
      have hl38 : (38 : Int) < S.es.length := by omega
      clear hcase
      go_enter Tryz.func121, Tryz.ntmps121
      go_wp2_with (go_at_call 44; refine HU.out.mono ?_; rintro e w1 ⟨rfl, t1⟩; have HT1 := hid t1; clear t1; have hh := (HI.out.turned HT1.out (fun _ _ => id)).h1; have hln := (HI.out.turned HT1.out (fun _ _ => id)).mp.run_len Tryz.underlying201 3; rw [show (keysE B S.es).length = S.es.length from List.length_map ..] at hln)
      go_returns
      exact ⟨rfl, .same (HI.out.turned HT1.out (fun _ _ => id)) (HT.out.turned HT1.out id) (no_turn HT1.out) HN.out⟩
theorem law_used (h : DLawB W w fb tb S ts) (hi : ts[i]? = some (tab, L)) : Calls Tryz.prog 44 #[.pointer (some ⟨tab, 0, none⟩)] w fun e w' => e = .returned (.int .i64 (usedL L)) ∧ DLawB W w' fb tb S ts :=
  (used_is (h.tabs i _ hi).1).mono fun e w' x => ⟨x.1, h.still x.2⟩
theorem law_pipe (h : DLawB W w fb tb S ts) (hS : DOk S) (hi : ts[i]? = some (tab, L)) :
    Calls Tryz.prog 121 #[.pointer (some ⟨fb, 0, none⟩), .pointer (some ⟨tab, 0, none⟩)] w fun e w' => e = .returned (.tuple #[.int .i64 (pipeK1 S L), .int .i64 (pipeK2 S L), TErr (pipeE S L)]) ∧ DLawB W w' fb tb (pipedS S L) (ts.set i (tab, pipedL S L)) := by
  obtain ⟨F, h1, h2, h3⟩ := h.files
  exact (pipe_is h1 hS (h.tabs i _ hi).1 (h3 i _ hi)).mono fun e w' x => ⟨x.1, h.step hi h2 h3 x.2⟩
end
end Go.Proofs.YtiohpmcedfbcgacGreatDoor
