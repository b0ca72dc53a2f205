/- Package desc: File. Condition: errors.errorType holds what is laid; each theorem's own premises. -/
import Derived.Test.YtiohpmcedfbcgacGreatDoorDescAdd
import Derived.Test.YtiohpmcedfbcgacGreatDoorTreeNew
import Derived.Test.YtiohpmcedfbcgacGreatDoorAs
namespace Go.Proofs.YtiohpmcedfbcgacGreatDoor
open Go.RowKit
set_option linter.unusedVariables false
theorem tell_tree (z : Int) (w : World) (hL : Laid w) : Calls Tryz.prog 27 #[TErr z] w fun e w' => e = .returned (.int .i64 z) ∧ Turn (fun _ => False) w w' := by
  by_cases h : z = 0
  · subst h
    exact (tell_nil w).mono fun e w' ⟨he, hw⟩ => ⟨he, hw ▸ Turn.refl _ _⟩
  · rw [TErr_of h]
    exact tell_errno z w hL
theorem mget_makeT {T : PT} {path : ByteArray} {b : Bool} {n : Int} {p : PN} (h : mget (makeT T path b) n = some p) :
    (∃ q, mget T n = some q ∧ p.held = q.held ∧ p.isDir = q.isDir ∧ p.names = q.names ∧ p.data = q.data) ∨ (p.held = 0 ∧ p.isDir = b ∧ p.names = 1 ∧ n = freeT T) := by
  unfold makeT at h
  split at h
  · obtain ⟨K, hK⟩ : ∃ K : Int, (freeT T : Int) = K := ⟨_, rfl⟩
    rw [hK] at h ⊢
    have one : ∀ m q, mget (mput T K (newN b)) m = some q → (∃ q', mget T m = some q' ∧ q.held = q'.held ∧ q.isDir = q'.isDir ∧ q.names = q'.names ∧ q.data = q'.data) ∨ (q.held = 0 ∧ q.isDir = b ∧ q.names = 1 ∧ m = K) := fun m q hq => by
      rw [mget_mput] at hq
      by_cases e : m = K
      · rw [if_pos e] at hq
        cases hq
        exact .inr ⟨rfl, rfl, rfl, e⟩
      · rw [if_neg e] at hq
        exact .inl ⟨q, hq, rfl, rfl, rfl, rfl⟩
    unfold nameT at h
    cases hd : mget (mput T K (newN b)) (placeT T path).2.1 with
    | none => rw [hd] at h; exact one n p h
    | some q =>
      rw [hd] at h
      have h : mget (mput (mput T K (newN b)) (placeT T path).2.1 _) n = some p := h
      rw [mget_mput] at h
      by_cases e : n = (placeT T path).2.1
      · rw [if_pos e] at h
        cases h
        have := one _ q hd
        rw [← e] at this
        exact this
      · rw [if_neg e] at h
        exact one n p h
  · exact .inl ⟨p, h, rfl, rfl, rfl, rfl⟩
/-- What File finds or makes: the error, the node, the tree. -/
def fileN (T : PT) (path : ByteArray) (makes : Bool) : Int × Int × PT :=
  if (findT T path).1 = 7 ∧ makes = true then (makeE T path, makeK T path, makeT T path false) else ((findT T path).1, (findT T path).2, T)
def fileZ (x : Int × Int × PT) : Int := if x.1 = 0 then fileE x.2.2 x.2.1 else x.1
def fileH (x : Int × Int × PT) : PT := if x.1 = 0 then holdT x.2.2 x.2.1 else x.2.2
def openE (S : PS) (L : PTab) (path : ByteArray) (prot : Int) (makes : Bool) : Int :=
  if prot < 1 ∨ 3 < prot then 1 else if leastL L < 0 ∨ 40 ≤ S.es.length then 12 else fileZ (fileN S.T path makes)
def openS (S : PS) (L : PTab) (path : ByteArray) (prot : Int) (makes : Bool) : PS :=
  if prot < 1 ∨ 3 < prot then S else if leastL L < 0 ∨ 40 ≤ S.es.length then S
  else if fileZ (fileN S.T path makes) = 0 then putS (treeS S (fileH (fileN S.T path makes))) (freeE S.es) ⟨1, prot, (fileN S.T path makes).2.1, 0, 0, 1⟩ else treeS S (fileH (fileN S.T path makes))
def openK (S : PS) (L : PTab) (path : ByteArray) (prot : Int) (makes : Bool) : Int := if openE S L path prot makes = 0 then leastL L else 0
def openL (S : PS) (L : PTab) (path : ByteArray) (prot : Int) (makes : Bool) : PTab := if openE S L path prot makes = 0 then tset L (leastL L).toNat ((freeE S.es : Int) + 1, false) else L
/-- Within a call: the tree is T1, all else is as it was. -/
def FilesMid (fb tb om : Nat) (S : PS) (B : Int → Nat) (P : Nat → Nat) (C : Nat → Nat × Int) (w wx : World) (T1 : PT) : Prop :=
  ∃ Ft1 C1, FilesIn wx fb tb om (treeS S T1) B P Ft1 C1 ∧ (∀ j, C1 j = C j ∨ w.heap.size ≤ j) ∧ Turn (fun j => CFoot C j) w wx
section
variable {w w' wx w1 w2 : World} {fb tb om b c tab : Nat} {S S' : PS} {B : Int → Nat} {P : Nat → Nat} {Ft F : Nat → Prop} {C : Nat → Nat × Int} {e e' : PE} {k n : Int} {L L' : PTab} {T1 T2 : PT}
theorem FilesMid.start (h : FilesIn w fb tb om S B P Ft C) : FilesMid fb tb om S B P C w w S.T := ⟨Ft, C, h, fun _ => .inl rfl, Turn.refl _ _⟩
theorem FilesMid.still (h : FilesMid fb tb om S B P C w wx T1) (t : Turn (fun _ => False) wx w') : FilesMid fb tb om S B P C w w' T1 := by
  obtain ⟨Ft1, C1, h1, h2, h3⟩ := h
  exact ⟨Ft1, C1, h1.turned t (fun _ _ => id), h2, h3.trans (no_turn t)⟩
theorem FilesMid.h0 (h : FilesMid fb tb om S B P C w wx T1) : wx.cell? ⟨fb, 0, none⟩ = some (.pointer (some ⟨tb, 0, none⟩)) := by
  obtain ⟨Ft1, C1, h1, h2, h3⟩ := h
  exact h1.h0
theorem FilesMid.turn (h : FilesMid fb tb om S B P C w wx T1) : Turn (fun j => CFoot C j) w wx := by
  obtain ⟨Ft1, C1, h1, h2, h3⟩ := h
  exact h3
theorem FilesMid.next (hl : ∀ j, CFoot C j → j < w.heap.size) (t1 : Turn (fun j => CFoot C j) w wx) {Ft1 : Nat → Prop} {C1 : Nat → Nat × Int} (h : FilesIn wx fb tb om (treeS S T1) B P Ft1 C1) (h2 : ∀ j, C1 j = C j ∨ w.heap.size ≤ j) (ht : TreeTo tb Ft1 wx w' T2) : FilesMid fb tb om S B P C w w' T2 := by
  obtain ⟨Ft', C', a, b', t⟩ := h.tree ht
  refine ⟨Ft', C', a, fun j => ?_, t1.trans' t (fun j hj hc => ?_)⟩
  · rcases b' j with h3 | h3
    · rcases h2 j with h4 | h4
      · exact .inl (h3.trans h4)
      · exact .inr h4
    · exact .inr (Nat.le_trans t1.size h3)
  · rcases h2 j with h4 | h4
    · have hc : C1 j ≠ _ := hc
      rw [h4] at hc; exact hc
    · exact absurd hj (by omega)
theorem FilesMid.find (h : FilesMid fb tb om S B P C w wx T1) (path : ByteArray) (hs : path.size < 4294967281) :
    Calls Tryz.prog 38 #[.pointer (some ⟨tb, 0, none⟩), .string path] wx fun e w' => e = .returned (.tuple #[.int .i64 (findT T1 path).2, TErr (findT T1 path).1]) ∧ FilesMid fb tb om S B P C w w' T1 := by
  obtain ⟨Ft1, C1, h1, h2, h3⟩ := h
  exact (find_is h1.tr path hs).mono fun e w' x => ⟨x.1, Ft1, C1, h1.turned x.2 (fun _ _ => id), h2, h3.trans (no_turn x.2)⟩
theorem FilesMid.create (hl : ∀ j, CFoot C j → j < w.heap.size) (h : FilesMid fb tb om S B P C w wx T1) (path : ByteArray) (hs : path.size < 4294967281) :
    Calls Tryz.prog 26 #[.pointer (some ⟨tb, 0, none⟩), .string path] wx fun e w' => e = .returned (.tuple #[.int .i64 (makeK T1 path), TErr (makeE T1 path)]) ∧ FilesMid fb tb om S B P C w w' (makeT T1 path false) := by
  obtain ⟨Ft1, C1, h1, h2, h3⟩ := h
  exact (create_is h1.tr path hs).mono fun e w' x => ⟨x.1, FilesMid.next hl h3 h1 h2 x.2⟩
theorem FilesMid.hold (hl : ∀ j, CFoot C j → j < w.heap.size) (h : FilesMid fb tb om S B P C w wx T1) (n : Int) (hb : ∀ p, mget T1 n = some p → p.held < 1000000) :
    Calls Tryz.prog 106 #[.pointer (some ⟨tb, 0, none⟩), .int .i64 n] wx fun e w' => e = .returned (TErr (fileE T1 n)) ∧ FilesMid fb tb om S B P C w w' (holdT T1 n) := by
  obtain ⟨Ft1, C1, h1, h2, h3⟩ := h
  exact (hold_is h1.tr n hb).mono fun e w' x => ⟨x.1, FilesMid.next hl h3 h1 h2 x.2⟩
theorem FilesMid.done (h : FilesMid fb tb om S B P C w wx T1) (ht : TabIs w tab L) (hn : ¬ CFoot C tab) : FilesTo fb tb tab (CFoot C) w wx (treeS S T1) L := by
  obtain ⟨Ft1, C1, h1, h2, h3⟩ := h
  refine .of h1 (ht.turned h3 hn) (h3.mono (fun _ _ h => .inl h)) (fun j hj => ?_) (fun hx => ?_)
  · rcases h2 j with h4 | h4
    · exact .inl (by have hj : C1 j ≠ _ := hj; rw [h4] at hj; exact hj)
    · exact .inr h4
  · have hx : C1 tab ≠ _ := hx
    rw [(h2 tab).resolve_right (by have := ht.lt; omega)] at hx
    exact hn hx
def entObj (prot node : Int) : Obj := .cells #[.int .i64 1, .int .i64 prot, .int .i64 node, .pointer none, .int .i64 0, .int .i64 0] 206
theorem entObj_at (w : World) (P : Nat → Nat) (prot node : Int) : EntAt (w.alloc (entObj prot node)) w.heap.size P ⟨1, prot, node, 0, 0, 0⟩ :=
  ⟨World.cell?_alloc_new _ _ _ _, World.cell?_alloc_new _ _ _ _, World.cell?_alloc_new _ _ _ _, World.cell?_alloc_new _ _ _ _, World.cell?_alloc_new _ _ _ _, World.cell?_alloc_new _ _ _ _, fun i => World.frozen?_alloc_new _ _ _ _⟩
set_option maxHeartbeats 4000000 in
set_option maxRecDepth 100000 in
theorem file_is_open (h : FilesIs w fb tb S F) (hS : DOk S) (ht : TabIs w tab L) (hn : ¬ F tab) (hL : Laid w) (hLf : ¬ F 0) (path : ByteArray) (hs : path.size < 4294967281) (prot : Int) (makes : Bool) :
    Calls Tryz.prog 117 #[.pointer (some ⟨fb, 0, none⟩), .pointer (some ⟨tab, 0, none⟩), .string path, .int .i64 prot, .bool makes] w fun e w' => e = .returned (.tuple #[.int .i64 (openK S L path prot makes), TErr (openE S L path prot makes)]) ∧ FilesTo fb tb tab F w w' (openS S L path prot makes) (openL S L path prot makes) := by
  obtain ⟨om, B, P, Ft, C, hin, rfl⟩ := h
  have HSame : Hid (∀ w', Turn (fun _ => False) w w' → FilesTo fb tb tab (CFoot C) w w' S L) := hid (fun w' t => .same (hin.turned t (fun _ _ => id)) (ht.turned t id) (no_turn t) hn)
  by_cases hp : prot < 1 ∨ 3 < prot
  · have e1 : openE S L path prot makes = 1 := if_pos hp
    have e2 : openS S L path prot makes = S := if_pos hp
    have e3 : openK S L path prot makes = 0 := if_neg (by rw [e1]; decide)
    have e4 : openL S L path prot makes = L := if_neg (by rw [e1]; decide)
    rw [e1, e2, e3, e4]
    clear hin hS ht hn hL hLf e1 e2 e3 e4
    rcases hp with hp | hp
    all_goals go_enter Tryz.func117, Tryz.ntmps117
    all_goals go_wp2_with fail
    all_goals go_ret2
    all_goals exact ⟨rfl, HSame.out _ (Turn.refl _ _)⟩
  · obtain ⟨hp1, hp2⟩ : 1 ≤ prot ∧ prot ≤ 3 := by omega
    have HLe := hid (least_is ht)
    by_cases hf : leastL L < 0 ∨ 40 ≤ S.es.length
    · have e1 : openE S L path prot makes = 12 := by unfold openE; rw [if_neg hp, if_pos hf]
      have e2 : openS S L path prot makes = S := by unfold openS; rw [if_neg hp, if_pos hf]
      have e3 : openK S L path prot makes = 0 := if_neg (by rw [e1]; decide)
      have e4 : openL S L path prot makes = L := if_neg (by rw [e1]; decide)
      rw [e1, e2, e3, e4]
      have HI := hid hin
      have HF := hid hf
      clear hin hS ht hn hL hLf e1 e2 e3 e4 hp hf
      go_enter Tryz.func117, Tryz.ntmps117
      go_wp2_with (go_at_call 220; refine HLe.out.mono ?_; rintro e w1 ⟨rfl, t1⟩; have HT1 := hid t1; clear t1; have hh := (HI.out.turned HT1.out (fun _ _ => id)).h1; have hln := (HI.out.turned HT1.out (fun _ _ => id)).mp.run_len Tryz.underlying201 3; rw [show (keysE B S.es).length = S.es.length from List.length_map ..] at hln; by_cases hl : leastL L < 0; rotate_left; have hl2 : (40 : Int) ≤ S.es.length := by have := HF.out; omega)
      all_goals go_wp2_with fail
      all_goals go_ret2
      all_goals exact ⟨rfl, HSame.out _ HT1.out⟩
    · obtain ⟨j, hl, hj, hjz⟩ := (leastL_spec L).resolve_left (by omega)
      have hlen : S.es.length < 40 := by omega
      obtain ⟨xe, xk, T2, hX⟩ : ∃ xe xk T2, fileN S.T path makes = (xe, xk, T2) := ⟨_, _, _, rfl⟩
      have e1 : openE S L path prot makes = fileZ (xe, xk, T2) := by unfold openE; rw [if_neg hp, if_neg hf, hX]
      have e2 : openS S L path prot makes = if fileZ (xe, xk, T2) = 0 then putS (treeS S (fileH (xe, xk, T2))) (freeE S.es) ⟨1, prot, xk, 0, 0, 1⟩ else treeS S (fileH (xe, xk, T2)) := by unfold openS; rw [if_neg hp, if_neg hf, hX]
      have e3 : openK S L path prot makes = if fileZ (xe, xk, T2) = 0 then (j : Int) else 0 := by unfold openK; rw [e1, hl]
      have e4 : openL S L path prot makes = if fileZ (xe, xk, T2) = 0 then tset L j ((freeE S.es : Int) + 1, false) else L := by unfold openL; rw [e1, hl]; rfl
      obtain ⟨Z, hZ⟩ : ∃ Z, fileZ (xe, xk, T2) = Z := ⟨_, rfl⟩
      rw [hZ] at e1 e2 e3 e4
      obtain ⟨S2, hS2⟩ : ∃ S2, openS S L path prot makes = S2 := ⟨_, rfl⟩
      obtain ⟨K2, hK2⟩ : ∃ K2, openK S L path prot makes = K2 := ⟨_, rfl⟩
      obtain ⟨L2, hL2⟩ : ∃ L2, openL S L path prot makes = L2 := ⟨_, rfl⟩
      rw [e1, hS2, hK2, hL2]
      rw [hS2] at e2
      rw [hK2] at e3
      rw [hL2] at e4
      have E2 := hid e2
      have E3 := hid e3
      have E4 := hid e4
      have HX := hid hX
      have HZ := hid hZ
      have HI := hid hin
      have HT := hid ht
      have HN := hid hn
      have HLd := hid hL
      have HLf := hid hLf
      have HLow : Hid (∀ j, CFoot C j → j < w.heap.size) := hid hin.low
      have HNd := hid hS.nd
      have HB : Hid (∀ n p, mget T2 n = some p → p.held < 1000000) := hid (fun n p hp => by
        have h0 : ∀ n p, mget S.T n = some p → p.held < 1000000 := fun n p hp => by rw [hS.held _ p hp]; have h1 := hS.size; have h2 : heldE n S.es ≤ S.es.length := List.length_filter_le _ _; omega
        have hp : mget ((xe, xk, T2) : Int × Int × PT).2.2 n = some p := hp
        rw [← hX] at hp
        unfold fileN at hp
        split at hp
        · rcases mget_makeT hp with ⟨q, hq, h3, _⟩ | ⟨h3, _⟩
          · rw [h3]; exact h0 n q hq
          · omega
        · exact h0 n p hp)
      have HLl := hid hl
      have HLn := hid hlen
      clear hin hS ht hn hL hLf e1 e2 e3 e4 hp hf hl hX hZ hS2 hK2 hL2 HSame
      go_enter Tryz.func117, Tryz.ntmps117
      go_upto_region 5 with (go_at_call 220; refine HLe.out.mono ?_; rintro e w1 ⟨rfl, t1⟩; rw [HLl.out]; have HT1 := hid t1; clear t1; have hh := (HI.out.turned HT1.out (fun _ _ => id)).h1; have hln := (HI.out.turned HT1.out (fun _ _ => id)).mp.run_len Tryz.underlying201 3; rw [show (keysE B S.es).length = S.es.length from List.length_map ..] at hln; have hl2 : ¬ (40 : Int) ≤ S.es.length := by have := HLn.out; omega)
      clear hln hl2 hh
      have HM1 := hid ((FilesMid.start HI.out).still HT1.out)
      have h0 := HM1.out.h0
      obtain ⟨fe, hfe⟩ : ∃ fe, (findT S.T path).1 = fe := ⟨_, rfl⟩
      obtain ⟨fk, hfk⟩ : ∃ fk, (findT S.T path).2 = fk := ⟨_, rfl⟩
      obtain ⟨bb, hbb⟩ : ∃ bb, decide (fe = 7 ∧ makes = true) = bb := ⟨_, rfl⟩
      have HFe := hid hfe
      have HFk := hid hfk
      have HBb := hid hbb
      clear hfe hfk hbb
      go_upto_region 6 with (go_at_call 38; refine (HM1.out.find path hs).mono ?_; rintro e w2 ⟨rfl, hm⟩; rw [HFe.out, HFk.out]; have HM2 := hid hm; clear hm)
      go_cut [49] (fun v wx => v = .bool bb ∧ Hid (FilesMid fb tb om S B P C w wx S.T))
      case first =>
        as_aux_lemma =>
          by_cases h7 : fe = 7
          · have h7b : (fe == 7) = true := by simpa using h7
            have hb2 : bb = makes := by have := HBb.out; rw [h7] at this; simpa using this.symm
            have HB2 := hid hb2
            clear h7 hb2
            go_wp2_with (go_at_call 27; refine (tell_tree _ _ (HLd.out.turned HM2.out.turn HLf.out)).mono ?_; rintro e w3 ⟨rfl, t3⟩; have HM3 := hid (HM2.out.still t3); clear t3)
            go_meet
            exact ⟨by rw [HB2.out], HM3⟩
          · have h7b : (fe == 7) = false := by simpa using h7
            have hb2 : bb = false := by rw [← HBb.out]; simp [h7]
            have HB2 := hid hb2
            clear h7 hb2
            go_wp2_with (go_at_call 27; refine (tell_tree _ _ (HLd.out.turned HM2.out.turn HLf.out)).mono ?_; rintro e w3 ⟨rfl, t3⟩; have HM3 := hid (HM2.out.still t3); clear t3)
            go_meet
            exact ⟨by rw [HB2.out], HM3⟩
      case rest =>
        obtain ⟨rfl, HM3⟩ := hcut
        clear HM1 HM2 h0
        have h0 := HM3.out.h0
        go_upto_if 49 with fail
        go_cut [12, 13] (fun kv ev wx => kv = .int .i64 xk ∧ ev = TErr xe ∧ Hid (FilesMid fb tb om S B P C w wx T2))
        case first =>
          as_aux_lemma =>
            have hx := HX.out
            unfold fileN at hx
            cases bb with
            | true =>
              have h1 := of_decide_eq_true HBb.out
              rw [if_pos ⟨HFe.out.trans h1.1, h1.2⟩] at hx
              injection hx with x1 x2
              injection x2 with x2 x3
              have X1 := hid x1
              have X2 := hid x2
              have X3 := hid x3
              clear x1 x2 x3 h1
              go_wp2_with (go_at_call 26; refine (HM3.out.create HLow.out path hs).mono ?_; rintro e w4 ⟨rfl, hm⟩; have HM4 := hid hm; clear hm)
              go_meet
              exact ⟨by rw [← X2.out], by rw [← X1.out], by rw [← X3.out]; exact HM4⟩
            | false =>
              have h1 := of_decide_eq_false HBb.out
              rw [if_neg (fun h => h1 ⟨HFe.out.symm.trans h.1, h.2⟩)] at hx
              injection hx with x1 x2
              injection x2 with x2 x3
              have X1 := hid x1
              have X2 := hid x2
              have X3 := hid x3
              clear x1 x2 x3 h1
              go_wp2_with fail
              go_meet
              exact ⟨by rw [← X2.out, HFk.out], by rw [← X1.out, HFe.out], by rw [← X3.out]; exact HM3⟩
        case rest =>
          obtain ⟨rfl, rfl, HM4⟩ := hcut
          clear HM3 h0
          have h0 := HM4.out.h0
          by_cases hxe : xe = 0
          · subst hxe
            rw [show TErr 0 = Value.nilIface from if_pos rfl]
            have hZ2 : Z = fileE T2 xk := by rw [← HZ.out]; exact if_pos rfl
            have hH2 : fileH (0, xk, T2) = holdT T2 xk := if_pos rfl
            rw [hH2] at E2
            by_cases hz : fileE T2 xk = 0
            · rw [hz] at hZ2
              rw [hZ2, if_pos rfl] at E2 E3 E4
              have HZ2 := hid hZ2
              have HZz := hid hz
              clear hZ2 hz hH2
              go_upto_region 12 with (go_at_call 106; refine (HM4.out.hold HLow.out xk (HB.out xk)).mono ?_; rintro e w5 ⟨rfl, hm⟩; rw [HZz.out, show TErr 0 = Value.nilIface from if_pos rfl]; have HM5 := hid hm; clear hm)
              obtain ⟨Ft1, C1, hi5, hC5, ht5⟩ := HM5.out
              have hobj := entObj_at w5 P prot xk
              have ta : Turn (fun _ => False) w5 (w5.alloc (entObj prot xk)) := (Turn.refl _ _).alloc _
              have hn1 : ¬ CFoot C1 tab := fun hx => by
                have hx : C1 tab ≠ _ := hx
                rw [(hC5 tab).resolve_right (by have := HT.out.lt; omega)] at hx
                exact HN.out hx
              have hc1 : ¬ CFoot C1 w5.heap.size := fun hx => by have := hi5.low _ hx; omega
              have hct : w5.heap.size ≠ tab := fun hx => by have := (HT.out.turned ht5 HN.out).lt; omega
              have HA := hid (add_is (hi5.turned ta (fun _ _ => id)) HNd.out ((HT.out.turned ht5 HN.out).turned ta id) hn1 hobj hc1 hct HLl.out hj HLn.out)
              have HSz := hid ht5.size
              have HC5 := hid hC5
              have HT5 := hid ht5
              have HTa := hid ta
              have HN1 := hid hn1
              clear hi5 hC5 ht5 hobj ta hn1 hc1 hct
              unfold entObj at HA HTa
              go_wp2_with (go_at_call 221; refine HA.out.mono ?_; rintro e w7 ⟨rfl, hi7, ht7, t7⟩; have HI7 := hid hi7; have HT7 := hid ht7; have HT7u := hid t7; clear hi7 ht7 t7)
              go_ret2
              rw [HZ2.out, E2.out, E3.out, E4.out]
              have hlt : ∀ j, CFoot C1 j → CFoot C j ∨ w.heap.size ≤ j := fun j hj => by
                rcases HC5.out j with h4 | h4
                · exact .inl (by have hj : C1 j ≠ _ := hj; rw [h4] at hj; exact hj)
                · exact .inr h4
              have tall := ((HT5.out.mono (fun _ _ h => .inl h)).trans (no_turn (X := fun j => CFoot C j ∨ j = tab) HTa.out)).trans' HT7u.out (fun i hi hx => by
                rcases hx with hx | hx | hx
                · rcases hlt i hx with h4 | h4
                  · exact .inl h4
                  · omega
                · exact .inr hx
                · have := HSz.out; omega)
              refine ⟨rfl, .of HI7.out HT7.out tall (fun i hi => ?_) (fun hx => ?_)⟩
              · by_cases hic : i = w5.heap.size
                · exact .inr (by have := HSz.out; omega)
                · exact hlt i (by have hi : updC C1 _ _ i ≠ _ := hi; unfold updC at hi; rw [if_neg hic] at hi; exact hi)
              · have hx : updC C1 _ _ tab ≠ _ := hx
                unfold updC at hx
                have : tab ≠ w5.heap.size := fun hx => by have := (HT.out.turned HT5.out HN.out).lt; omega
                rw [if_neg this] at hx
                exact HN1.out hx
            · rw [if_neg (by rw [hZ2]; exact hz)] at E2 E3 E4
              have hte := TErr_of hz
              have HZ2 := hid hZ2
              have HXe := hid hte
              clear hZ2 hz hH2 hte
              go_wp2_with (go_at_call 106; refine (HM4.out.hold HLow.out xk (HB.out xk)).mono ?_; rintro e w5 ⟨rfl, hm⟩; rw [HXe.out]; have HM5 := hid hm; clear hm)
              go_ret2
              rw [HZ2.out, HXe.out, E2.out, E3.out, E4.out]
              exact ⟨rfl, HM5.out.done HT.out HN.out⟩
          · have hZ2 : Z = xe := by rw [← HZ.out]; exact if_neg hxe
            have hH2 : fileH (xe, xk, T2) = T2 := if_neg hxe
            rw [hH2, if_neg (by rw [hZ2]; exact hxe)] at E2
            rw [if_neg (by rw [hZ2]; exact hxe)] at E3 E4
            have hte := TErr_of hxe
            rw [hte]
            have HZ2 := hid hZ2
            have HXe := hid hte
            clear hZ2 hxe hH2 hte
            go_wp2_with fail
            go_ret2
            rw [HZ2.out, HXe.out, E2.out, E3.out, E4.out]
            exact ⟨rfl, HM4.out.done HT.out HN.out⟩
end
end Go.Proofs.YtiohpmcedfbcgacGreatDoor
