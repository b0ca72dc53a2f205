/- Several texts of ours in one, in build order (DescFd, DescEnd, DescState). Conditions: each theorem's own premises. -/
import Derived.Test.YtiohpmcedfbcgacGreatDoorDescSafe
import Derived.Test.YtiohpmcedfbcgacGreatDoorDescJoint
import Derived.Test.YtiohpmcedfbcgacGreatDoorPick
import Derived.Test.YtiohpmcedfbcgacGreatDoorRowV
/- The law's helper fd: one call of package desc, whichever. Condition: errors.errorType holds what is laid; each theorem's own premises. -/
namespace Go.Proofs.YtiohpmcedfbcgacGreatDoor
open Go.RowKit
set_option linter.unusedVariables false
/-- Files and tables of a law's own, all in order. -/
structure DAll (W : Base) (w : World) (fb tb : Nat) (S : PS) (ts : List (Nat × PTab)) : Prop where
  law : DLawB W w fb tb S ts
  ok : DOk S
  joint : Joint S ts
  flat : Flat S.T
  few : ts.length ≤ 1000
section
variable {W : Base} {w w' : World} {fb tb tab : Nat} {S S' : PS} {L L' : PTab} {ts : List (Nat × PTab)} {i : Nat} {n : Int}
theorem DAll.still (h : DAll W w fb tb S ts) (t : Turn (fun _ => False) w w') : DAll W w' fb tb S ts := ⟨h.law.still t, h.ok, h.joint, h.flat, h.few⟩
theorem DAll.mk' (h : DAll W w fb tb S ts) (hl : DLawB W w' fb tb S' (ts.set i (tab, L'))) (h1 : DOk S') (h2 : Joint S' (ts.set i (tab, L'))) (h3 : Flat S'.T) : DAll W w' fb tb S' (ts.set i (tab, L')) := ⟨hl, h1, h2, h3, by rw [List.length_set]; exact h.few⟩
def FdIs (W : Base) (fb tb : Nat) (S : PS) (L : PTab) (ts : List (Nat × PTab)) (i tab : Nat) (z : Int) (w' : World) : Prop :=
  ∃ S' L', DAll W w' fb tb S' (ts.set i (tab, L')) ∧ (z ≠ 0 → usedL L' = usedL L ∧ S'.es.length = S.es.length)
def FdTo (W : Base) (fb tb : Nat) (S : PS) (L : PTab) (ts : List (Nat × PTab)) (i tab : Nat) (e : Ending) (w' : World) : Prop := ∃ z : Int, e = .returned (TErr z) ∧ FdIs W fb tb S L ts i tab z w'
theorem all_file (h : DAll W w fb tb S ts) (hi : ts[i]? = some (tab, L)) (hL : LaidB W) (path : ByteArray) (hs : path.size < 4294967281) (prot : Int) (makes : Bool) :
    Calls Tryz.prog 117 #[.pointer (some ⟨fb, 0, none⟩), .pointer (some ⟨tab, 0, none⟩), .string path, .int .i64 prot, .bool makes] w fun e w' => e = .returned (.tuple #[.int .i64 (openK S L path prot makes), TErr (openE S L path prot makes)]) ∧ FdIs W fb tb S L ts i tab (openE S L path prot makes) w' := by
  refine (law_file h.law h.ok hi hL path hs prot makes).mono ?_
  rintro e w' ⟨rfl, h1⟩
  have h2 := joint_open h.joint h.ok h.law.tok hi path prot makes
  exact ⟨rfl, _, _, h.mk' h1 h2.1 h2.2 (flat_open h.flat h.law.tok L path prot makes), fun hz => by rw [(open_err hz).1, (open_err hz).2]; exact ⟨rfl, rfl⟩⟩
theorem all_pipe (h : DAll W w fb tb S ts) (hi : ts[i]? = some (tab, L)) :
    Calls Tryz.prog 121 #[.pointer (some ⟨fb, 0, none⟩), .pointer (some ⟨tab, 0, none⟩)] w fun e w' => e = .returned (.tuple #[.int .i64 (pipeK1 S L), .int .i64 (pipeK2 S L), TErr (pipeE S L)]) ∧ FdIs W fb tb S L ts i tab (pipeE S L) w' := by
  refine (law_pipe h.law h.ok hi).mono ?_
  rintro e w' ⟨rfl, h1⟩
  have h2 := joint_pipe h.joint h.ok hi
  exact ⟨rfl, _, _, h.mk' h1 h2.1 h2.2 (flat_pipe h.flat L), fun hz => by rw [(pipe_err hz).1, (pipe_err hz).2]; exact ⟨rfl, rfl⟩⟩
theorem all_dup (h : DAll W w fb tb S ts) (hi : ts[i]? = some (tab, L)) (n : Int) :
    Calls Tryz.prog 118 #[.pointer (some ⟨fb, 0, none⟩), .pointer (some ⟨tab, 0, none⟩), .int .i64 n] w fun e w' => e = .returned (.tuple #[.int .i64 (dupK S L n), TErr (dupE S L n)]) ∧ FdIs W fb tb S L ts i tab (dupE S L n) w' := by
  have hb := h.joint.bound h.ok h.few
  refine (law_dup h.law h.ok hi (h.joint.there hi) n (fun k e he => by have := hb k e he; omega)).mono ?_
  rintro e w' ⟨rfl, h1⟩
  exact ⟨rfl, _, _, h.mk' h1 (dok_dup h.ok hb L n) (joint_dup h.joint h.ok hi n) (flat_dup h.flat L n), fun hz => by rw [(dup_err hz).1, (dup_err hz).2]; exact ⟨rfl, rfl⟩⟩
theorem all_dup2 (h : DAll W w fb tb S ts) (hi : ts[i]? = some (tab, L)) (n m : Int) :
    Calls Tryz.prog 122 #[.pointer (some ⟨fb, 0, none⟩), .pointer (some ⟨tab, 0, none⟩), .int .i64 n, .int .i64 m] w fun e w' => e = .returned (TErr (dup2E S L n m)) ∧ FdIs W fb tb S L ts i tab (dup2E S L n m) w' := by
  refine (law_dup2 h.law h.ok h.joint h.few hi n m).mono ?_
  rintro e w' ⟨rfl, h1⟩
  have h2 := joint_dup2 h.joint h.ok h.few hi h.law.tok n m
  exact ⟨rfl, _, _, h.mk' h1 h2.1 h2.2 (flat_dup2 h.flat L n m), fun hz => by rw [(dup2_err hz).1, (dup2_err hz).2]; exact ⟨rfl, rfl⟩⟩
theorem law_mark (h : DLawB W w fb tb S ts) (hi : ts[i]? = some (tab, L)) (hok : TabOk S L) (n : Int) (c : Bool) :
    Calls Tryz.prog 123 #[.pointer (some ⟨fb, 0, none⟩), .pointer (some ⟨tab, 0, none⟩), .int .i64 n, .bool c] w fun e w' => e = .returned (TErr (getE L n)) ∧ DLawB W w' fb tb S (ts.set i (tab, markL S L n c)) := by
  obtain ⟨F, h1, h2, h3⟩ := h.files
  exact (mark_is h1 (h.tabs i _ hi).1 hok (h3 i _ hi) n c).mono fun e w' x => ⟨x.1, h.step hi h2 h3 x.2⟩
theorem all_mark (h : DAll W w fb tb S ts) (hi : ts[i]? = some (tab, L)) (n : Int) (c : Bool) :
    Calls Tryz.prog 123 #[.pointer (some ⟨fb, 0, none⟩), .pointer (some ⟨tab, 0, none⟩), .int .i64 n, .bool c] w fun e w' => e = .returned (TErr (getE L n)) ∧ FdIs W fb tb S L ts i tab (getE L n) w' := by
  refine (law_mark h.law hi (h.joint.there hi) n c).mono ?_
  rintro e w' ⟨rfl, h1⟩
  exact ⟨rfl, _, _, h.mk' h1 h.ok (joint_mark h.joint hi n c) h.flat, fun hz => by rw [mark_err hz]; exact ⟨rfl, rfl⟩⟩
theorem all_close (h : DAll W w fb tb S ts) (hi : ts[i]? = some (tab, L)) (n : Int) :
    Calls Tryz.prog 124 #[.pointer (some ⟨fb, 0, none⟩), .pointer (some ⟨tab, 0, none⟩), .int .i64 n] w fun e w' => e = .returned (TErr (closeE S L n)) ∧ FdIs W fb tb S L ts i tab (closeE S L n) w' := by
  refine (law_close h.law h.ok hi (h.joint.there hi) n).mono ?_
  rintro e w' ⟨rfl, h1⟩
  exact ⟨rfl, _, _, h.mk' h1 (h.ok.close L n) (joint_close h.joint h.ok hi n) (flat_close h.flat L n), fun hz => by rw [(close_err h.ok hz).1, (close_err h.ok hz).2]; exact ⟨rfl, rfl⟩⟩
theorem all_read (h : DAll W w fb tb S ts) (hi : ts[i]? = some (tab, L)) (n m : Int) :
    Calls Tryz.prog 125 #[.pointer (some ⟨fb, 0, none⟩), .pointer (some ⟨tab, 0, none⟩), .int .i64 n, .int .i64 m] w fun e w' => e = .returned (.tuple #[.string (rdB S L n m), TErr (rdE S L n m)]) ∧ FdIs W fb tb S L ts i tab (rdE S L n m) w' := by
  refine (law_dread h.law h.ok hi (h.joint.there hi) n m).mono ?_
  rintro e w' ⟨rfl, h1⟩
  obtain ⟨a, b, c⟩ := dok_rd h.ok h.law.tok L n m
  have h2 : Joint (rdS S L n m) (ts.set i (tab, L)) := by rw [set_same hi]; exact joint_rd h.joint L n m
  exact ⟨rfl, _, _, h.mk' h1 a h2 (by rw [c]; exact h.flat), fun hz => ⟨rfl, b⟩⟩
theorem all_write (h : DAll W w fb tb S ts) (hi : ts[i]? = some (tab, L)) (n : Int) (s : ByteArray) (hs : s.size ≤ 1000000) :
    Calls Tryz.prog 119 #[.pointer (some ⟨fb, 0, none⟩), .pointer (some ⟨tab, 0, none⟩), .int .i64 n, .string s, .int .i64 100] w fun e w' => e = .returned (.tuple #[.int .i64 (wrK S L n s 100), TErr (wrE S L n s 100)]) ∧ FdIs W fb tb S L ts i tab (wrE S L n s 100) w' := by
  refine (law_dwrite h.law h.ok hi (h.joint.there hi) n s hs 100 (by decide) (by decide)).mono ?_
  rintro e w' ⟨rfl, h1⟩
  obtain ⟨a, b, c⟩ := dok_wr h.ok h.flat L n s 100
  have h2 : Joint (wrS S L n s 100) (ts.set i (tab, L)) := by rw [set_same hi]; exact joint_wr h.joint L n s 100
  exact ⟨rfl, _, _, h.mk' h1 a h2 c, fun hz => ⟨rfl, b⟩⟩
theorem all_seek (h : DAll W w fb tb S ts) (hi : ts[i]? = some (tab, L)) (n m : Int) :
    Calls Tryz.prog 120 #[.pointer (some ⟨fb, 0, none⟩), .pointer (some ⟨tab, 0, none⟩), .int .i64 n, .int .i64 m] w fun e w' => e = .returned (TErr (seekE S L n m)) ∧ FdIs W fb tb S L ts i tab (seekE S L n m) w' := by
  refine (law_seek h.law hi (h.joint.there hi) n m).mono ?_
  rintro e w' ⟨rfl, h1⟩
  have h2 : Joint (seekS S L n m) (ts.set i (tab, L)) := by rw [set_same hi]; exact joint_seek h.joint L n m
  exact ⟨rfl, _, _, h.mk' h1 (dok_seek h.ok L n m) h2 (flat_seek h.flat L n m), fun hz => ⟨rfl, seek_len L n m⟩⟩
theorem all_none (h : DAll W w fb tb S ts) (hi : ts[i]? = some (tab, L)) : FdIs W fb tb S L ts i tab 0 w := ⟨S, L, by rw [set_same hi]; exact h, fun hz => absurd rfl hz⟩
set_option maxHeartbeats 4000000 in
set_option maxRecDepth 100000 in
theorem fd_is (h : DAll W w fb tb S ts) (hi : ts[i]? = some (tab, L)) (hL : LaidB W) (what tbl n m : Int) (s : ByteArray) (hs : s.size ≤ 1000) :
    Calls Tryz.prog 45 #[.pointer (some ⟨fb, 0, none⟩), .pointer (some ⟨tab, 0, none⟩), .agg #[.int .i64 what, .int .i64 tbl, .int .i64 n, .int .i64 m, .string s]] w (FdTo W fb tb S L ts i tab) := by
  have ta : Turn (fun _ => False) w (w.alloc (.cells #[.int .i64 what, .int .i64 tbl, .int .i64 n, .int .i64 m, .string s] 82)) := (Turn.refl _ _).alloc _
  have H := hid (h.still ta)
  have HI := hid hi
  have HL := hid hL
  clear h hi hL ta
  rcases (show what = 0 ∨ what = 1 ∨ what = 2 ∨ what = 3 ∨ what = 4 ∨ what = 5 ∨ what = 6 ∨ what = 7 ∨ what = 8 ∨ (what ≠ 0 ∧ what ≠ 1 ∧ what ≠ 2 ∧ what ≠ 3 ∧ what ≠ 4 ∧ what ≠ 5 ∧ what ≠ 6 ∧ what ≠ 7 ∧ what ≠ 8) by omega) with rfl | rfl | rfl | rfl | rfl | rfl | rfl | rfl | rfl | hw
  · go_enter Tryz.func45, Tryz.ntmps45
    have HD := hid (H.out.still (Turn.refl (fun _ => False) _).drew)
    go_upto_region 4 with fail
    go_region_with (first | (go_at_call 16; refine (pick_some n 3 _ (by decide) (by decide)).mono ?_; rintro e w2 ⟨k, hk0, hk1, rfl, rfl⟩; have hkw : IntKind.i64.wrap (1 + k) = 1 + k := IntWalk.i64_in _ (by omega)) | (go_at_call 117; refine (all_file HD.out HI.out HL.out s (by omega) _ true).mono ?_; rintro e w3 ⟨rfl, h2⟩))
    all_goals go_wp2_with fail
    all_goals go_ret
    all_goals exact ⟨_, rfl, h2⟩
  · go_enter Tryz.func45, Tryz.ntmps45
    go_wp2_with (go_at_call 121; refine (all_pipe H.out HI.out).mono ?_; rintro e w2 ⟨rfl, h2⟩)
    go_ret
    exact ⟨_, rfl, h2⟩
  · go_enter Tryz.func45, Tryz.ntmps45
    go_wp2_with (go_at_call 118; refine (all_dup H.out HI.out n).mono ?_; rintro e w2 ⟨rfl, h2⟩)
    go_ret
    exact ⟨_, rfl, h2⟩
  · go_enter Tryz.func45, Tryz.ntmps45
    go_wp2_with (go_at_call 122; refine (all_dup2 H.out HI.out n m).mono ?_; rintro e w2 ⟨rfl, h2⟩)
    go_ret
    exact ⟨_, rfl, h2⟩
  · go_enter Tryz.func45, Tryz.ntmps45
    go_wp2_with (go_at_call 123; refine (all_mark H.out HI.out n _).mono ?_; rintro e w2 ⟨rfl, h2⟩)
    go_ret
    exact ⟨_, rfl, h2⟩
  · go_enter Tryz.func45, Tryz.ntmps45
    go_wp2_with (go_at_call 124; refine (all_close H.out HI.out n).mono ?_; rintro e w2 ⟨rfl, h2⟩)
    go_ret
    exact ⟨_, rfl, h2⟩
  · go_enter Tryz.func45, Tryz.ntmps45
    go_wp2_with (go_at_call 125; refine (all_read H.out HI.out n m).mono ?_; rintro e w2 ⟨rfl, h2⟩)
    go_ret
    exact ⟨_, rfl, h2⟩
  · go_enter Tryz.func45, Tryz.ntmps45
    go_wp2_with (go_at_call 119; refine (all_write H.out HI.out n s (by omega)).mono ?_; rintro e w2 ⟨rfl, h2⟩)
    go_ret
    exact ⟨_, rfl, h2⟩
  · go_enter Tryz.func45, Tryz.ntmps45
    go_wp2_with (go_at_call 120; refine (all_seek H.out HI.out n m).mono ?_; rintro e w2 ⟨rfl, h2⟩)
    go_ret
    exact ⟨_, rfl, h2⟩
  · obtain ⟨a0, a1, a2, a3, a4, a5, a6, a7, a8⟩ := hw
    have b0 : (what == 0) = false := by simpa using a0
    have b1 : (what == 1) = false := by simpa using a1
    have b2 : (what == 2) = false := by simpa using a2
    have b3 : (what == 3) = false := by simpa using a3
    have b4 : (what == 4) = false := by simpa using a4
    have b5 : (what == 5) = false := by simpa using a5
    have b6 : (what == 6) = false := by simpa using a6
    have b7 : (what == 7) = false := by simpa using a7
    have b8 : (what == 8) = false := by simpa using a8
    clear a0 a1 a2 a3 a4 a5 a6 a7 a8
    go_enter Tryz.func45, Tryz.ntmps45
    go_wp2_with fail
    go_ret
    exact ⟨0, rfl, all_none H.out HI.out⟩
end
end Go.Proofs.YtiohpmcedfbcgacGreatDoor
/- Files and tables of a law's own beside a row of pointers to the tables: what DescCloses asks. Conditions: each theorem's own premises. -/
namespace Go.Proofs.YtiohpmcedfbcgacGreatDoor
open Go.RowKit
set_option linter.unusedVariables false
section
variable {W : Base} {w w' w1 w2 : World} {fb tb om tab : Nat} {S S' : PS} {L L' : PTab} {ts : List (Nat × PTab)} {i j : Nat} {n : Int} {B : Int → Nat} {P : Nat → Nat} {Ft : Nat → Prop} {C : Nat → Nat × Int} {T' : PT} {path : ByteArray} {p q : PN}
/-! ### the tree under them, from outside -/
theorem DLawB.treed (h : DLawB W w fb tb S ts) (hin : FilesIn w fb tb om S B P Ft C) (h2 : ∀ k, CFoot C k → ¬ W.old k) (h3 : ∀ (j : Nat) (x : Nat × PTab), ts[j]? = some x → ¬ CFoot C x.1) (hto : TreeTo tb Ft w w' T') : DLawB W w' fb tb (treeS S T') ts := by
  obtain ⟨Ft', C', a, b, t⟩ := hin.tree hto
  have hC : ∀ k, CFoot C' k → CFoot C k ∨ w.heap.size ≤ k := fun k hk => by
    rcases b k with h1 | h1
    · exact .inl (by have hk : C' k ≠ _ := hk; rw [h1] at hk; exact hk)
    · exact .inr h1
  refine ⟨⟨CFoot C', a.is, fun k hk => ?_, fun j x hx hk => ?_⟩, fun j x hx => ⟨(h.tabs j x hx).1.turned t (h3 j x hx), (h.tabs j x hx).2⟩, h.apart, h.turn.trans' t (fun k _ hk => h2 k hk), h.low⟩
  · rcases hC k hk with h1 | h1
    · exact h2 k h1
    · exact h.fresh h1
  · rcases hC _ hk with h1 | h1
    · exact h3 j x hx h1
    · have := (h.tabs j x hx).1.lt; omega
theorem DAll.tree (h : DAll W w fb tb S ts) (hl : DLawB W w' fb tb (treeS S T') ts) (h1 : Same S.T T') (h2 : Flat T') : DAll W w' fb tb (treeS S T') ts := ⟨hl, h.ok.tree h1, ⟨h.joint.cnt, h.joint.pos⟩, h2, h.few⟩
theorem all_list (h : DAll W w fb tb S ts) (path : ByteArray) (hs : path.size < 4294967281) :
    Calls Tryz.prog 46 #[.pointer (some ⟨tb, 0, none⟩), .string path] w fun e w' => ∃ v, e = .returned (.tuple #[v, TErr (listE S.T path)]) ∧ RowV w' 9 v ((listT S.T path).map encS) ∧ (∀ g, v.ownBlock = some g → w.heap.size ≤ g) ∧ DAll W w' fb tb S ts ∧ Turn (fun _ => False) w w' := by
  have hok := h.law.tok
  obtain ⟨F, ⟨om, B, P, Ft, C, hin, rfl⟩, h2, h3⟩ := h.law.files
  refine (list_is hin.tr path hs (fun n p hp => by have := ds_few hok h.flat hp; omega)).mono ?_
  rintro e w' ⟨v, rfl, hrow, t, hf⟩
  exact ⟨v, rfl, hrow, hf, h.still t, t⟩
theorem all_unlink (h : DAll W w fb tb S ts) {p0 : PN} (h0 : mget S.T 0 = some p0) (hd : p0.isDir = true) {s : ByteArray} {m : Int} (hs : mget p0.ds s = some m) :
    Calls Tryz.prog 39 #[.pointer (some ⟨tb, 0, none⟩), .string (slash ++ s)] w fun e w' => e = .returned .nilIface ∧ ∃ T' p1, DAll W w' fb tb (treeS S T') ts ∧ mget T' 0 = some p1 ∧ p1.isDir = true ∧ p1.ds = mdel p0.ds s := by
  have hok := h.law.tok
  obtain ⟨hE, ⟨p1, a1, a2, a3⟩, hF, hSm⟩ := unlink_one hok h.flat h0 hd hs
  have hon : okName s = true := hok.nms 0 p0 h0 (s, m) (mem_of_mget hs)
  have hsz : s.size ≤ 12 := (okName_true hon).2.1
  have hss : (slash ++ s).size < 4294967281 := by rw [(slash_app s).2.1]; omega
  obtain ⟨F, ⟨om, B, P, Ft, C, hin, rfl⟩, h2, h3⟩ := h.law.files
  refine (unlink_is hin.tr (slash ++ s) hss (fun n p hp => by have h5 := ds_few hok h.flat hp; have h6 := h.flat.one n p hp; omega)).mono ?_
  rintro e w' ⟨rfl, hto⟩
  exact ⟨by rw [hE]; rfl, _, p1, h.tree (h.law.treed hin h2 h3 hto) hSm hF, a1, a2, a3⟩
theorem all_nodes (h : DAll W w fb tb S ts) : Calls Tryz.prog 35 #[.pointer (some ⟨tb, 0, none⟩)] w fun e w' => e = .returned (.int .i64 (S.T.length : Int)) ∧ w' = w := by
  obtain ⟨F, ⟨om, B, P, Ft, C, hin, rfl⟩, h2, h3⟩ := h.law.files
  exact nodes_is hin.tr
/-! ### Fork -/
theorem dok_forkFrom (L : PTab) : ∀ (f i : Nat) (S : PS), DOk S → (∀ k e, mget S.es k = some e → e.refs + f ≤ 1000000) → DOk (forkFrom L f i S) ∧ (forkFrom L f i S).es.length = S.es.length
  | 0, _, S, h, _ => ⟨h, rfl⟩
  | f + 1, i, S, h, hb => by
    show DOk (forkFrom L f (i + 1) (if 0 < (L i).1 then bumpS S ((L i).1 - 1) else S)) ∧ (forkFrom L f (i + 1) (if 0 < (L i).1 then bumpS S ((L i).1 - 1) else S)).es.length = S.es.length
    by_cases hz : 0 < (L i).1
    · rw [if_pos hz]
      unfold bumpS
      cases he : mget S.es ((L i).1 - 1) with
      | none => exact dok_forkFrom L f (i + 1) S h (fun k e he => by have := hb k e he; omega)
      | some e =>
        have hE := (h.ent _ e he).1
        have hbe := hb _ e he
        have h2 : DOk (putS S ((L i).1 - 1) { e with refs := e.refs + 1 }) := h.put he rfl rfl rfl rfl ⟨by show 1 ≤ e.refs + 1; omega, by show e.refs + 1 ≤ 1000000; omega, hE.2.2⟩
        obtain ⟨a, b⟩ := dok_forkFrom L f (i + 1) (putS S ((L i).1 - 1) { e with refs := e.refs + 1 }) h2 (fun k g hg => by
          have hg : mget (mput S.es _ _) k = some g := hg
          rw [mget_mput] at hg
          split at hg
          · cases hg
            show e.refs + 1 + f ≤ 1000000
            omega
          · have := hb k g hg; omega)
        exact ⟨a, b.trans (put_len he)⟩
    · rw [if_neg hz]
      exact dok_forkFrom L f (i + 1) S h (fun k e he => by have := hb k e he; omega)
theorem all_fork (h : DAll W w fb tb S ts) (hf : ts.length < 1000) (hi : ts[i]? = some (tab, L)) :
    Calls Tryz.prog 43 #[.pointer (some ⟨fb, 0, none⟩), .pointer (some ⟨tab, 0, none⟩)] w fun e w' => ∃ ub, e = .returned (.pointer (some ⟨ub, 0, none⟩)) ∧ DAll W w' fb tb (forkS S L) (ts ++ [(ub, L)]) ∧ (forkS S L).es.length = S.es.length := by
  have hb := h.joint.bound h.ok h.few
  refine (law_fork h.law hi (h.joint.there hi) hb).mono ?_
  rintro e w' ⟨ub, rfl, h1⟩
  obtain ⟨a, b⟩ := dok_forkFrom L 8 0 S h.ok (fun k e he => by have := hb k e he; omega)
  exact ⟨ub, rfl, ⟨h1, a, joint_fork h.joint hi ub, flat_fork h.flat L 8 0 S h.flat, by rw [List.length_append]; show ts.length + 1 ≤ 1000; omega⟩, b⟩
/-! ### Clear -/
theorem flat_clearFrom (L0 : PTab) : ∀ (f i : Nat) (S : PS) (L : PTab), Flat S.T → Flat (clearFrom L0 true f i S L).1.T
  | 0, _, S, L, h => h
  | f + 1, i, S, L, h => by
    by_cases hc : 0 < (L0 i).1 ∧ (true = true ∨ (L0 i).2 = true)
    · rw [clear_go f i hc]; exact flat_clearFrom L0 f (i + 1) _ _ (flat_close h L i)
    · rw [clear_no f i hc]; exact flat_clearFrom L0 f (i + 1) _ _ h
theorem root_drop {T : PT} {p0 : PN} (h0 : mget T 0 = some p0) (hd : p0.isDir = true) (n : Int) : mget (dropT T n) 0 = some p0 := by
  unfold dropT
  cases hn : mget T n with
  | none => exact h0
  | some p =>
    show mget (if p.isDir then T else if p.held = 0 then T else goneT (mput T n { p with held := p.held - 1 }) n { p with held := p.held - 1 }) 0 = some p0
    split
    · exact h0
    · rename_i hpd
      have hn0 : (0 : Int) ≠ n := fun e => by rw [← e, h0] at hn; cases hn; exact hpd hd
      split
      · exact h0
      · unfold goneT
        split
        · rw [mget_mdel, if_neg hn0, mget_mput, if_neg hn0]; exact h0
        · rw [mget_mput, if_neg hn0]; exact h0
theorem root_close {p0 : PN} (h0 : mget S.T 0 = some p0) (hd : p0.isDir = true) (L : PTab) (n : Int) : mget (closeS S L n).T 0 = some p0 := by
  unfold closeS
  cases hx : entL S L n with
  | none => exact h0
  | some x =>
    show mget (if 1 < x.2.refs then putS S x.1 { x.2 with refs := x.2.refs - 1 } else goneS (delS S x.1) x.2).T 0 = some p0
    split
    · exact h0
    · unfold goneS
      split
      · exact root_drop h0 hd _
      · show mget ((S.ps[x.2.pid]?).elim (delS S x.1) fun q => pipeS (delS S x.1) x.2.pid (endP q x.2.kind)).T 0 = some p0
        cases S.ps[x.2.pid]? <;> exact h0
theorem root_clearFrom {p0 : PN} (hd : p0.isDir = true) (L0 : PTab) : ∀ (f i : Nat) (S : PS) (L : PTab), mget S.T 0 = some p0 → mget (clearFrom L0 true f i S L).1.T 0 = some p0
  | 0, _, S, L, h => h
  | f + 1, i, S, L, h => by
    by_cases hc : 0 < (L0 i).1 ∧ (true = true ∨ (L0 i).2 = true)
    · rw [clear_go f i hc]; exact root_clearFrom hd L0 f (i + 1) _ _ (root_close h hd L i)
    · rw [clear_no f i hc]; exact root_clearFrom hd L0 f (i + 1) _ _ h
theorem clear_zero {L0 : PTab} {c : Nat} (hp : ∀ j, j < 8 → 0 ≤ (L0 j).1) (hc : ts[c]? = some (tab, L0)) : ∀ (f i : Nat) (S : PS) (L : PTab), i + f = 8 → DOk S → Joint S (ts.set c (tab, L)) → (∀ j, j < i → (L j).1 = 0) → (∀ j, i ≤ j → L j = L0 j) → ∀ j, j < 8 → ((clearFrom L0 true f i S L).2 j).1 = 0
  | 0, i, S, L, hif, _, _, hz, _, j, hj => hz j (by omega)
  | f + 1, i, S, L, hif, hS, hJ, hz, hs, j, hj => by
    have hi : (ts.set c (tab, L))[c]? = some (tab, L) := get_set hc
    by_cases hcl : 0 < (L0 i).1 ∧ (true = true ∨ (L0 i).2 = true)
    · rw [clear_go f i hcl]
      have hLi : L i = L0 i := hs i (Nat.le_refl _)
      obtain ⟨e, he⟩ := (hJ.there hi i (by omega)).resolve_left (by show (L i).1 ≠ 0; rw [hLi]; omega)
      have hx : entL S L (i : Int) = some ((L i).1 - 1, e) := by
        unfold entL
        have : slotL L (i : Int) = some ((L i).1 - 1) := if_pos ⟨by omega, by omega, by show (L (i : Int).toNat).1 ≠ 0; rw [Int.toNat_natCast, hLi]; omega⟩
        rw [this]
        show (mget S.es ((L i).1 - 1)).map _ = _
        rw [show mget S.es ((L i).1 - 1) = some e from he]; rfl
      have hcL : closeL S L (i : Int) = tset L i (0, false) := by unfold closeL; rw [hx]; show tset L (i : Int).toNat _ = _; rw [Int.toNat_natCast]
      have hJ2 := joint_close hJ hS hi (i : Int)
      rw [set_set] at hJ2
      refine clear_zero hp hc f (i + 1) _ _ (by omega) (hS.close L i) hJ2 (fun m hm => ?_) (fun m hm => ?_) j hj
      · rw [hcL]
        by_cases e : m = i
        · rw [e, tset_self]
        · rw [tset_other L _ e]; exact hz m (by omega)
      · rw [hcL, tset_other L _ (by omega)]; exact hs m (by omega)
    · rw [clear_no f i hcl]
      refine clear_zero hp hc f (i + 1) S L (by omega) hS hJ (fun m hm => ?_) (fun m hm => hs m (by omega)) j hj
      by_cases e : m = i
      · have h1 : ¬ 0 < (L0 i).1 := fun h => hcl ⟨h, .inl rfl⟩
        have := hp i (by omega)
        rw [e, hs i (Nat.le_refl _)]; omega
      · exact hz m (by omega)
theorem used_zero : ∀ (f i : Nat), (∀ j, i ≤ j → j < i + f → (L j).1 = 0) → usedFrom L f i = 0
  | 0, _, _ => rfl
  | f + 1, i, h => by
    show (if 0 < (L i).1 then 1 else 0) + usedFrom L f (i + 1) = 0
    rw [if_neg (by rw [h i (Nat.le_refl _) (by omega)]; omega), used_zero f (i + 1) (fun j h1 h2 => h j (by omega) (by omega))]
theorem cnt_zero : ∀ us : List (Nat × PTab), (∀ t ∈ us, ∀ j, j < 8 → (t.2 j).1 = 0) → ∀ k, 0 ≤ k → cntT k us = 0
  | [], _, k, _ => rfl
  | u :: us, h, k, hk => by
    have h1 : cntL u.2 k = 0 := by
      rcases Nat.eq_zero_or_pos (cntL u.2 k) with h1 | h1
      · exact h1
      · obtain ⟨j, _, hj, hjk⟩ := cntFrom_ex 8 0 h1
        have := h u List.mem_cons_self j (by omega)
        omega
    show cntL u.2 k + cntT k us = 0
    rw [h1, cnt_zero us (fun t ht => h t (List.mem_cons_of_mem _ ht)) k hk]
/-- Nothing is open when no table has a number. -/
theorem none_open (h : DAll W w fb tb S ts) (hz : ∀ t ∈ ts, ∀ j, j < 8 → (t.2 j).1 = 0) : S.es = [] := by
  cases hes : S.es with
  | nil => rfl
  | cons t l =>
    exfalso
    have he : mget S.es t.1 = some t.2 := mget_mem h.ok.nd (by rw [hes]; exact List.mem_cons_self)
    have h1 := h.joint.refs h.ok he
    have h2 := cnt_zero ts hz t.1 (h.ok.keys _ _ he).1
    have h3 := (h.ok.ent _ _ he).1.1
    omega
theorem all_clear (h : DAll W w fb tb S ts) (hi : ts[i]? = some (tab, L)) {p0 : PN} (h0 : mget S.T 0 = some p0) (hd : p0.isDir = true) :
    Calls Tryz.prog 47 #[.pointer (some ⟨fb, 0, none⟩), .pointer (some ⟨tab, 0, none⟩)] w fun e w' => e = .returned (.tuple #[]) ∧ ∃ S' L', DAll W w' fb tb S' (ts.set i (tab, L')) ∧ mget S'.T 0 = some p0 ∧ (∀ j, j < 8 → (L' j).1 = 0) := by
  refine (law_clear h.law h.ok h.joint hi).mono ?_
  rintro e w' ⟨rfl, h1, h2, h3⟩
  refine ⟨rfl, _, _, h.mk' h1 h2 h3 (flat_clearFrom L 8 0 S L h.flat), root_clearFrom hd L 8 0 S L h0, ?_⟩
  have hJ : Joint S (ts.set i (tab, L)) := by rw [set_same hi]; exact h.joint
  exact clear_zero (fun j hj => (h.joint.pos i _ hi j hj).1) hi 8 0 S L rfl h.ok hJ (fun j hj => by omega) (fun j _ => rfl)
end
end Go.Proofs.YtiohpmcedfbcgacGreatDoor
/- Files and tables of a law's own, and a row of pointers to the tables. Conditions: each theorem's own premises. -/
namespace Go.Proofs.YtiohpmcedfbcgacGreatDoor
open Go.RowKit
set_option linter.unusedVariables false
def tptr (t : Nat × PTab) : Value := .pointer (some ⟨t.1, 0, none⟩)
def oldOf (W : World) (v : Value) : Nat → Prop := fun k => k < W.heap.size ∨ v.ownBlock = some k
structure CState (W w : World) (fb tb : Nat) (v : Value) (rs : List Value) (S : PS) (ts : List (Nat × PTab)) : Prop where
  all : ∃ V, DAll ⟨V, oldOf W v⟩ w fb tb S ts ∧ RowV V 74 v rs ∧ Turn (fun _ => False) W V
  own : ∀ g, v.ownBlock = some g → W.heap.size ≤ g
section
variable {W w w' w1 w2 : World} {fb tb tab : Nat} {v z : Value} {rs : List Value} {S S' : PS} {L L' : PTab} {ts : List (Nat × PTab)} {i j : Nat} {n : Int} {path : ByteArray}
theorem CState.still (h : CState W w fb tb v rs S ts) (t : Turn (fun _ => False) w w') : CState W w' fb tb v rs S ts := by
  obtain ⟨V, h1, h2, h3⟩ := h.all
  exact ⟨⟨V, h1.still t, h2, h3⟩, h.own⟩
theorem CState.turn (h : CState W w fb tb v rs S ts) : Turn (fun _ => False) W w := by
  obtain ⟨V, h1, h2, h3⟩ := h.all
  exact h3.trans' h1.law.turn (fun k hk hn => hn (.inl hk))
theorem CState.row (h : CState W w fb tb v rs S ts) : RowV w 74 v rs := by
  obtain ⟨V, h1, h2, h3⟩ := h.all
  exact h2.turned h1.law.turn (fun g hg hn => hn (.inr hg))
theorem CState.ok (h : CState W w fb tb v rs S ts) : DOk S := by
  obtain ⟨V, h1, h2, h3⟩ := h.all
  exact h1.ok
theorem CState.joint (h : CState W w fb tb v rs S ts) : Joint S ts := by
  obtain ⟨V, h1, h2, h3⟩ := h.all
  exact h1.joint
theorem CState.tok (h : CState W w fb tb v rs S ts) : TOk S.T := by
  obtain ⟨V, h1, h2, h3⟩ := h.all
  exact h1.law.tok
theorem CState.flat (h : CState W w fb tb v rs S ts) : Flat S.T := by
  obtain ⟨V, h1, h2, h3⟩ := h.all
  exact h1.flat
theorem CState.slice (h : CState W w fb tb v rs S ts) (hne : rs ≠ []) : ∃ g cap, v = .slice (some ⟨g, 0, none⟩) rs.length cap := by
  rcases h.row.shape with ⟨_, h1⟩ | ⟨g, cap, h1, _⟩
  · exact absurd h1 hne
  · exact ⟨g, cap, h1⟩
theorem CState.cell {g cap : Nat} (h : CState W w fb tb (.slice (some ⟨g, 0, none⟩) rs.length cap) rs S ts) (j : Nat) (x : Value) (hj : rs[j]? = some x) : w.cell? ⟨g, j, none⟩ = some x := h.row.cell j x hj
theorem map_set_tptr (hi : ts[i]? = some (tab, L)) (L' : PTab) : (ts.set i (tab, L')).map tptr = ts.map tptr := by
  rw [List.map_set]
  exact List.ext_getElem? fun m => by
    by_cases e : m = i
    · subst e
      have hlt : m < ts.length := by rcases Nat.lt_or_ge m ts.length with h1 | h1; exact h1; rw [List.getElem?_eq_none h1] at hi; cases hi
      rw [List.getElem?_set_self (by rw [List.length_map]; exact hlt), List.getElem?_map, hi]; rfl
    · rw [List.getElem?_set_ne (fun h => e h.symm)]
/-- The row is made. -/
theorem CState.made (h : DAll (base W) w fb tb S ts) (t : Turn (fun _ => False) W w) (x : Value) : CState W (w.alloc (.cells #[x] 74)) fb tb (.slice (some ⟨w.heap.size, 0, none⟩) 1 1) [x] S ts := by
  have ta : Turn (fun _ => False) w (w.alloc (.cells #[x] 74)) := (Turn.refl _ _).alloc _
  have hs : (w.alloc (.cells #[x] 74)).heap.size = w.heap.size + 1 := World.size_alloc _ _
  have h' := h.still ta
  refine ⟨⟨_, ⟨⟨?_, fun j x hx => ⟨(h'.law.tabs j x hx).1, fun ho => ?_⟩, h'.law.apart, Turn.refl _ _, fun k hk => ?_⟩, h.ok, h.joint, h.flat, h.few⟩, RowV.one w _ x, t.trans ta⟩, fun g hg => by cases hg; exact t.size⟩
  · obtain ⟨F, a, b, c⟩ := h.law.files
    refine ⟨F, a.turned ta (fun _ _ => id), fun k hk ho => ?_, c⟩
    rcases ho with ho | ho
    · exact b k hk ho
    · have ho : w.heap.size = k := Option.some.inj ho
      have h5 : k < w.heap.size := a.low _ hk
      omega
  · rcases ho with ho | ho
    · exact (h.law.tabs j x hx).2 ho
    · have h1 := (h.law.tabs j x hx).1.lt
      have ho : w.heap.size = x.1 := Option.some.inj ho
      omega
  · rcases hk with hk | hk
    · have := t.size
      show k < (w.alloc (.cells #[_] 74)).heap.size
      rw [World.size_alloc]; omega
    · cases hk
      show w.heap.size < (w.alloc (.cells #[_] 74)).heap.size
      rw [World.size_alloc]; omega
/-- The row is grown. -/
theorem CState.grown {g k cap : Nat} {y : Value} (h : CState W w fb tb v rs S ts) (hr : RowV w' 74 (.slice (some ⟨g, 0, none⟩) k cap) (rs ++ [y])) (t : Turn (fun j => v.ownBlock = some j) w w') (hg : v.ownBlock = some g ∨ w.heap.size ≤ g) : CState W w' fb tb (.slice (some ⟨g, 0, none⟩) k cap) (rs ++ [y]) S ts := by
  have htW := h.turn
  obtain ⟨V, h1, h2, h3⟩ := h.all
  have hlt := hr.own_lt g rfl
  have htW' : Turn (fun _ => False) W w' := htW.trans' t (fun k hk e => by have := h.own k e; omega)
  obtain ⟨F, a, b, c⟩ := h1.law.files
  have hFg : ∀ k, F k → k ≠ g := fun k hk e => by
    rcases hg with h4 | h4
    · exact b k hk (.inr (by rw [e]; exact h4))
    · have := a.low k hk; omega
  refine ⟨⟨w', ⟨⟨⟨F, a.turned t (fun k hk e => b k hk (.inr e)), fun k hk ho => ?_, c⟩, fun j x hx => ⟨(h1.law.tabs j x hx).1.turned t (fun e => (h1.law.tabs j x hx).2 (.inr e)), fun ho => ?_⟩, h1.law.apart, Turn.refl _ _, fun k hk => ?_⟩, h1.ok, h1.joint, h1.flat, h1.few⟩, hr, htW'⟩, fun q hq => ?_⟩
  · rcases ho with ho | ho
    · exact b k hk (.inl ho)
    · cases ho; exact hFg _ hk rfl
  · rcases ho with ho | ho
    · exact (h1.law.tabs j x hx).2 (.inl ho)
    · have ho : g = x.1 := Option.some.inj ho
      rcases hg with h4 | h4
      · exact (h1.law.tabs j x hx).2 (.inr (by rw [← ho]; exact h4))
      · have := (h1.law.tabs j x hx).1.lt; omega
  · rcases hk with hk | hk
    · exact Nat.lt_of_lt_of_le hk htW'.size
    · cases hk; exact hlt
  · cases hq
    rcases hg with h4 | h4
    · exact h.own _ h4
    · exact Nat.le_trans htW.size h4
/-! ### each call -/
theorem cs_used (h : CState W w fb tb v rs S ts) (hi : ts[i]? = some (tab, L)) : Calls Tryz.prog 44 #[.pointer (some ⟨tab, 0, none⟩)] w fun e w' => e = .returned (.int .i64 (usedL L)) ∧ Turn (fun _ => False) w w' := by
  obtain ⟨V, h1, h2, h3⟩ := h.all
  exact used_is (h1.law.tabs i _ hi).1
theorem cs_open (h : CState W w fb tb v rs S ts) : Calls Tryz.prog 42 #[.pointer (some ⟨fb, 0, none⟩)] w fun e w' => e = .returned (.int .i64 (S.es.length : Int)) ∧ w' = w := by
  obtain ⟨V, h1, h2, h3⟩ := h.all
  exact law_open h1.law
theorem cs_fork (h : CState W w fb tb v rs S ts) (hf : ts.length < 1000) (hi : ts[i]? = some (tab, L)) :
    Calls Tryz.prog 43 #[.pointer (some ⟨fb, 0, none⟩), .pointer (some ⟨tab, 0, none⟩)] w fun e w' => ∃ ub S', e = .returned (.pointer (some ⟨ub, 0, none⟩)) ∧ CState W w' fb tb v rs S' (ts ++ [(ub, L)]) ∧ S'.es.length = S.es.length := by
  obtain ⟨V, h1, h2, h3⟩ := h.all
  refine (all_fork h1 hf hi).mono ?_
  rintro e w' ⟨ub, rfl, a, b⟩
  exact ⟨ub, _, rfl, ⟨⟨V, a, h2, h3⟩, h.own⟩, b⟩
theorem cs_fd (h : CState W w fb tb v rs S ts) (hi : ts[i]? = some (tab, L)) (hL : Laid W) (what tbl n m : Int) (s : ByteArray) (hs : s.size ≤ 1000) :
    Calls Tryz.prog 45 #[.pointer (some ⟨fb, 0, none⟩), .pointer (some ⟨tab, 0, none⟩), .agg #[.int .i64 what, .int .i64 tbl, .int .i64 n, .int .i64 m, .string s]] w fun e w' => ∃ z S' L', e = .returned (TErr z) ∧ CState W w' fb tb v rs S' (ts.set i (tab, L')) ∧ (z ≠ 0 → usedL L' = usedL L ∧ S'.es.length = S.es.length) := by
  obtain ⟨V, h1, h2, h3⟩ := h.all
  refine (fd_is h1 hi ⟨hL.turned0 h3, .inl hL.lt⟩ what tbl n m s hs).mono ?_
  rintro e w' ⟨z, rfl, S', L', a, b⟩
  exact ⟨z, S', L', rfl, ⟨⟨V, a, h2, h3⟩, h.own⟩, b⟩
/-! ### behind the list of names -/
/-- As CState, and names in memory. -/
structure CEnd (W w : World) (fb tb : Nat) (v : Value) (rs : List Value) (S : PS) (ts : List (Nat × PTab)) (u : Value) (l : List ByteArray) : Prop where
  all : ∃ V, DAll ⟨V, fun k => oldOf W v k ∨ u.ownBlock = some k⟩ w fb tb S ts ∧ RowV V 74 v rs ∧ RowV V 9 u (l.map encS) ∧ Turn (fun _ => False) W V
theorem CEnd.turn {u : Value} {l : List ByteArray} (h : CEnd W w fb tb v rs S ts u l) : Turn (fun _ => False) W w := by
  obtain ⟨V, h1, h2, h3, h4⟩ := h.all
  exact h4.trans' h1.law.turn (fun k hk hn => hn (.inl (.inl hk)))
theorem CEnd.still {u : Value} {l : List ByteArray} (h : CEnd W w fb tb v rs S ts u l) (t : Turn (fun _ => False) w w') : CEnd W w' fb tb v rs S ts u l := by
  obtain ⟨V, h1, h2, h3, h4⟩ := h.all
  exact ⟨V, h1.still t, h2, h3, h4⟩
theorem CEnd.row {u : Value} {l : List ByteArray} (h : CEnd W w fb tb v rs S ts u l) : RowV w 74 v rs ∧ RowV w 9 u (l.map encS) := by
  obtain ⟨V, h1, h2, h3, h4⟩ := h.all
  exact ⟨h2.turned h1.law.turn (fun g hg hn => hn (.inl (.inr hg))), h3.turned h1.law.turn (fun g hg hn => hn (.inr hg))⟩
theorem CEnd.dall {u : Value} {l : List ByteArray} (h : CEnd W w fb tb v rs S ts u l) : ∃ B, DAll B w fb tb S ts := by
  obtain ⟨V, h1, _⟩ := h.all
  exact ⟨_, h1⟩
theorem cs_list (h : CState W w fb tb v rs S ts) (path : ByteArray) (hs : path.size < 4294967281) :
    Calls Tryz.prog 46 #[.pointer (some ⟨tb, 0, none⟩), .string path] w fun e w' => ∃ u, e = .returned (.tuple #[u, TErr (listE S.T path)]) ∧ CEnd W w' fb tb v rs S ts u (listT S.T path) := by
  have htW := h.turn
  have hrow := h.row
  obtain ⟨V, h1, h2, h3⟩ := h.all
  refine (all_list h1 path hs).mono ?_
  rintro e w' ⟨u, rfl, b, hf, c, t⟩
  refine ⟨u, rfl, ⟨w', ⟨⟨?_, fun j x hx => ⟨(c.law.tabs j x hx).1, fun ho => ?_⟩, c.law.apart, Turn.refl _ _, fun k hk => ?_⟩, c.ok, c.joint, c.flat, c.few⟩, hrow.turned t (fun _ _ => id), b, htW.trans t⟩⟩
  · obtain ⟨F, a, b2, d⟩ := h1.law.files
    refine ⟨F, a.turned t (fun _ _ => id), fun k hk ho => ?_, d⟩
    rcases ho with ho | ho
    · exact b2 k hk ho
    · have := a.low k hk
      have := hf k ho
      omega
  · rcases ho with ho | ho
    · exact (h1.law.tabs j x hx).2 ho
    · have := (h1.law.tabs j x hx).1.lt
      have := hf _ ho
      omega
  · rcases hk with (hk | hk) | hk
    · exact Nat.lt_of_lt_of_le hk (htW.trans t).size
    · exact Nat.lt_of_lt_of_le (hrow.own_lt k hk) t.size
    · exact b.own_lt k hk
theorem ce_open {u : Value} {l : List ByteArray} (h : CEnd W w fb tb v rs S ts u l) : Calls Tryz.prog 42 #[.pointer (some ⟨fb, 0, none⟩)] w fun e w' => e = .returned (.int .i64 (S.es.length : Int)) ∧ w' = w := by
  obtain ⟨V, h1, h2⟩ := h.all
  exact law_open h1.law
theorem ce_used {u : Value} {l : List ByteArray} (h : CEnd W w fb tb v rs S ts u l) (hi : ts[i]? = some (tab, L)) : Calls Tryz.prog 44 #[.pointer (some ⟨tab, 0, none⟩)] w fun e w' => e = .returned (.int .i64 (usedL L)) ∧ Turn (fun _ => False) w w' := by
  obtain ⟨V, h1, h2⟩ := h.all
  exact used_is (h1.law.tabs i _ hi).1
theorem ce_nodes {u : Value} {l : List ByteArray} (h : CEnd W w fb tb v rs S ts u l) : Calls Tryz.prog 35 #[.pointer (some ⟨tb, 0, none⟩)] w fun e w' => e = .returned (.int .i64 (S.T.length : Int)) ∧ w' = w := by
  obtain ⟨V, h1, h2⟩ := h.all
  exact all_nodes h1
theorem ce_unlink {u : Value} {l : List ByteArray} (h : CEnd W w fb tb v rs S ts u l) {p0 : PN} (h0 : mget S.T 0 = some p0) (hd : p0.isDir = true) {s : ByteArray} {m : Int} (hs : mget p0.ds s = some m) :
    Calls Tryz.prog 39 #[.pointer (some ⟨tb, 0, none⟩), .string (slash ++ s)] w fun e w' => e = .returned .nilIface ∧ ∃ S' p1, CEnd W w' fb tb v rs S' ts u l ∧ mget S'.T 0 = some p1 ∧ p1.isDir = true ∧ p1.ds = mdel p0.ds s := by
  obtain ⟨V, h1, h2, h3, h4⟩ := h.all
  refine (all_unlink h1 h0 hd hs).mono ?_
  rintro e w' ⟨rfl, T', p1, a, b⟩
  exact ⟨rfl, _, p1, ⟨V, a, h2, h3, h4⟩, b⟩
theorem ce_clear {u : Value} {l : List ByteArray} (h : CEnd W w fb tb v rs S ts u l) (hi : ts[i]? = some (tab, L)) {p0 : PN} (h0 : mget S.T 0 = some p0) (hd : p0.isDir = true) :
    Calls Tryz.prog 47 #[.pointer (some ⟨fb, 0, none⟩), .pointer (some ⟨tab, 0, none⟩)] w fun e w' => e = .returned (.tuple #[]) ∧ ∃ S' L', CEnd W w' fb tb v rs S' (ts.set i (tab, L')) u l ∧ mget S'.T 0 = some p0 ∧ (∀ j, j < 8 → (L' j).1 = 0) := by
  obtain ⟨V, h1, h2, h3, h4⟩ := h.all
  refine (all_clear h1 hi h0 hd).mono ?_
  rintro e w' ⟨rfl, S', L', a, b, c⟩
  exact ⟨rfl, S', L', ⟨V, a, h2, h3, h4⟩, b, c⟩
end
end Go.Proofs.YtiohpmcedfbcgacGreatDoor
