/- Several texts of ours in one, in build order (DescIO, DescWrite). Conditions: each theorem's own premises. -/
import Derived.Test.YtiohpmcedfbcgacGreatDoorDescFiles
import Derived.Test.YtiohpmcedfbcgacGreatDoorTreeBytes
/- Package desc: Read, Write. Conditions: each theorem's own premises. -/
namespace Go.Proofs.YtiohpmcedfbcgacGreatDoor
open Go.RowKit
set_option linter.unusedVariables false
/-! ### a pipe's, whole -/
def pRdE (q : PP) (many : Int) : Int := if many < 0 then 2 else if 0 < many ∧ q.b.size = 0 ∧ 0 < q.e1 then 8 else 0
def pRd (q : PP) (many : Int) : ByteArray := if pRdE q many = 0 then q.b.extract 0 (min many.toNat q.b.size) else ByteArray.empty
def pRdQ (q : PP) (many : Int) : PP := if pRdE q many = 0 then { q with b := q.b.extract (min many.toNat q.b.size) q.b.size } else q
def pWrE (q : PP) (s : ByteArray) : Int := if q.e0 = 0 then 14 else if s.size = 0 then 0 else if 16 ≤ q.b.size then 12 else 0
def pWr (q : PP) (s : ByteArray) : Nat := if pWrE q s = 0 then min s.size (16 - q.b.size) else 0
def pWrQ (q : PP) (s : ByteArray) : PP := { q with b := q.b ++ s.extract 0 (pWr q s) }
theorem app_empty (b s : ByteArray) : b ++ s.extract 0 0 = b := by rw [ext_none]; exact ByteArray.append_empty
theorem pread_is {w : World} {p : Nat} {q : PP} (h : PipeIs w p q.b q.e0 q.e1) (many : Int) (hb : q.b.size ≤ 1000000) (he : q.e1 = 0 ∨ q.e1 = 1) :
    Calls Tryz.prog 226 #[.pointer (some ⟨p, 0, none⟩), .int .i64 many] w fun e w' => e = .returned (.tuple #[.string (pRd q many), TErr (pRdE q many)]) ∧ PipeIs w' p (pRdQ q many).b (pRdQ q many).e0 (pRdQ q many).e1 ∧ Turn (fun k => k = p) w w' := by
  by_cases h1 : many < 0
  · have e1 : pRdE q many = 2 := if_pos h1
    have e2 : pRd q many = ByteArray.empty := if_neg (by rw [e1]; decide)
    have e3 : pRdQ q many = q := if_neg (by rw [e1]; decide)
    rw [e1, e2, e3]
    exact (read_neg h many h1).mono fun e w' x => ⟨x.1, x.2 ▸ h, x.2 ▸ Turn.refl _ _⟩
  · by_cases h2 : 0 < many ∧ q.b.size = 0 ∧ 0 < q.e1
    · have e1 : pRdE q many = 8 := by unfold pRdE; rw [if_neg h1, if_pos h2]
      have e2 : pRd q many = ByteArray.empty := if_neg (by rw [e1]; decide)
      have e3 : pRdQ q many = q := if_neg (by rw [e1]; decide)
      rw [e1, e2, e3]
      exact (read_none h many h2.1 h2.2.1 h2.2.2).mono fun e w' x => ⟨x.1, x.2 ▸ h, x.2 ▸ Turn.refl _ _⟩
    · have e1 : pRdE q many = 0 := by unfold pRdE; rw [if_neg h1, if_neg h2]
      have e2 : pRd q many = q.b.extract 0 (min many.toNat q.b.size) := if_pos e1
      have e3 : pRdQ q many = { q with b := q.b.extract (min many.toNat q.b.size) q.b.size } := if_pos e1
      rw [e1, e2, e3]
      exact (read_some h many (by omega) hb (by omega) _ rfl).mono fun e w' x => x
theorem pwrite_is {w : World} {p : Nat} {q : PP} (h : PipeIs w p q.b q.e0 q.e1) (s : ByteArray) (hs : s.size ≤ 1000000) (hb : q.b.size ≤ 16) (he : q.e0 = 0 ∨ q.e0 = 1) :
    Calls Tryz.prog 223 #[.pointer (some ⟨p, 0, none⟩), .string s] w fun e w' => e = .returned (.tuple #[.int .i64 (pWr q s : Int), TErr (pWrE q s)]) ∧ PipeIs w' p (pWrQ q s).b (pWrQ q s).e0 (pWrQ q s).e1 ∧ Turn (fun k => k = p) w w' := by
  have same : pWr q s = 0 → ∀ w', w = w' → PipeIs w' p (pWrQ q s).b (pWrQ q s).e0 (pWrQ q s).e1 ∧ Turn (fun k => k = p) w w' := fun h0 w' e => by
    subst e
    unfold pWrQ
    rw [h0, app_empty]
    exact ⟨h, Turn.refl _ _⟩
  by_cases h1 : q.e0 = 0
  · have e1 : pWrE q s = 14 := if_pos h1
    have e2 : pWr q s = 0 := if_neg (by rw [e1]; decide)
    rw [e1, e2]
    exact (write_nobody (h1 ▸ h) s).mono fun e w' x => ⟨x.1, same e2 w' x.2⟩
  · by_cases h2 : s.size = 0
    · have e1 : pWrE q s = 0 := by unfold pWrE; rw [if_neg h1, if_pos h2]
      have e2 : pWr q s = 0 := by unfold pWr; rw [if_pos e1, h2]; simp
      rw [e1, e2]
      exact (write_empty h (by omega) s h2).mono fun e w' x => ⟨x.1, same e2 w' x.2⟩
    · by_cases h3 : 16 ≤ q.b.size
      · have e1 : pWrE q s = 12 := by unfold pWrE; rw [if_neg h1, if_neg h2, if_pos h3]
        have e2 : pWr q s = 0 := if_neg (by rw [e1]; decide)
        rw [e1, e2]
        exact (write_full h (by omega) s (by omega) h3 (by omega)).mono fun e w' x => ⟨x.1, same e2 w' x.2⟩
      · have e1 : pWrE q s = 0 := by unfold pWrE; rw [if_neg h1, if_neg h2, if_neg h3]
        have e2 : pWr q s = min s.size (16 - q.b.size) := if_pos e1
        rw [e1]
        exact (write_some h (by omega) s (by omega) hs (by omega) (pWr q s) e2).mono fun e w' x => x
/-! ### Read -/
def rdE (S : PS) (L : PTab) (n many : Int) : Int := (entL S L n).elim 7 fun x => if x.2.prot = 2 then 13 else if x.2.kind = 2 then (S.ps[x.2.pid]?).elim 0 fun q => pRdE q many else readE S.T x.2.node x.2.at' many
def rdB (S : PS) (L : PTab) (n many : Int) : ByteArray := (entL S L n).elim ByteArray.empty fun x => if x.2.prot = 2 then ByteArray.empty else if x.2.kind = 2 then (S.ps[x.2.pid]?).elim ByteArray.empty fun q => pRd q many else readT S.T x.2.node x.2.at' many
def rdS (S : PS) (L : PTab) (n many : Int) : PS := (entL S L n).elim S fun x => if x.2.prot = 2 then S else if x.2.kind = 2 then (S.ps[x.2.pid]?).elim S fun q => pipeS S x.2.pid (pRdQ q many) else putS S x.1 { x.2 with at' := x.2.at' + (readT S.T x.2.node x.2.at' many).size }
section
variable {w w' w1 w2 : World} {fb tb om b tab : Nat} {S S' : PS} {B : Int → Nat} {P : Nat → Nat} {Ft F : Nat → Prop} {C : Nat → Nat × Int} {e e' : PE} {k n : Int} {L L' : PTab}
theorem EOk.from (h : EOk S e) (hk : e.kind = 2) : e.prot = 1 ∧ ∃ q, S.ps[e.pid]? = some q ∧ q.e0 = 1 := by
  rcases h.2 with h1 | ⟨_, h1⟩ | h1
  · omega
  · exact h1
  · omega
theorem EOk.into (h : EOk S e) (hk : e.kind = 3) : e.prot = 2 ∧ ∃ q, S.ps[e.pid]? = some q ∧ q.e1 = 1 := by
  rcases h.2 with h1 | h1 | ⟨_, h1⟩
  · omega
  · omega
  · exact h1
theorem readT_size (hS : DOk S) (hok : TOk S.T) (n at' many : Int) : (readT S.T n at' many).size ≤ 200 := by
  unfold readT
  split
  · have h1 : (dataT S.T n).size ≤ 200 := by
      unfold dataT
      cases hn : mget S.T n with
      | none => show (0 : Nat) ≤ 200; omega
      | some p => exact hok.data n p hn
    unfold readB
    rw [ByteArray.size_extract]
    omega
  · show (0 : Nat) ≤ 200; omega
theorem pipe_ptr (he : EntAt w b P e) (hk : e.kind ≠ 1) : w.cell? ⟨b, 3, none⟩ = some (.pointer (some ⟨P e.pid, 0, none⟩)) := by
  have h1 := he.c3
  have h2 : pipeV P e = ptrV (P e.pid) := if_neg hk
  rw [h2] at h1; exact h1
set_option maxHeartbeats 4000000 in
set_option maxRecDepth 100000 in
theorem dread_is (h : FilesIs w fb tb S F) (hS : DOk S) (ht : TabIs w tab L) (hok : TabOk S L) (hn : ¬ F tab) (n many : Int) :
    Calls Tryz.prog 125 #[.pointer (some ⟨fb, 0, none⟩), .pointer (some ⟨tab, 0, none⟩), .int .i64 n, .int .i64 many] w fun e w' => e = .returned (.tuple #[.string (rdB S L n many), TErr (rdE S L n many)]) ∧ FilesTo fb tb tab F w w' (rdS S L n many) L := by
  obtain ⟨om, B, P, Ft, C, hin, rfl⟩ := h
  have HSame : Hid (∀ w', Turn (fun _ => False) w w' → FilesTo fb tb tab (CFoot C) w w' S L) := hid (fun w' t => .same (hin.turned t (fun _ _ => id)) (ht.turned t id) (no_turn t) hn)
  cases hx : entL S L n with
  | none =>
    have e1 : rdE S L n many = 7 := by unfold rdE; rw [hx]; rfl
    have e2 : rdS S L n many = S := by unfold rdS; rw [hx]; rfl
    have e3 : rdB S L n many = ByteArray.empty := by unfold rdB; rw [hx]; rfl
    rw [e1, e2, e3]
    have HG := hid (get_none hin ht hok hx)
    clear hin ht hok hn hx e1 e2 e3
    go_enter Tryz.func125, Tryz.ntmps125
    go_wp2_with (go_at_call 222; refine HG.out.mono ?_; rintro e w' ⟨rfl, t⟩)
    go_ret2
    exact ⟨rfl, HSame.out _ t⟩
  | some x =>
    obtain ⟨k, e⟩ := x
    have he := (entL_some hx).2
    have HG := hid (get_some hin ht hok hx)
    have HI := hid hin
    have HT := hid ht
    have HN := hid hn
    have HE := hid he
    obtain ⟨⟨hr1, hr2, ha1, ha2⟩, hkind⟩ := hS.ent k e he
    by_cases hp : e.prot = 2
    · have e1 : rdE S L n many = 13 := by unfold rdE; rw [hx]; exact if_pos hp
      have e2 : rdS S L n many = S := by unfold rdS; rw [hx]; exact if_pos hp
      have e3 : rdB S L n many = ByteArray.empty := by unfold rdB; rw [hx]; exact if_pos hp
      rw [e1, e2, e3]
      have HP := hid hp
      clear hin hS ht hok hn hx e1 e2 e3 he hkind hp
      go_enter Tryz.func125, Tryz.ntmps125
      go_wp2_with (go_at_call 222; refine HG.out.mono ?_; rintro e w' ⟨rfl, t⟩; have HTt := hid t; clear t; have c1 := ((HI.out.turned HTt.out (fun _ _ => id)).en _ _ HE.out).c1; rw [HP.out] at c1)
      go_ret2
      exact ⟨rfl, HSame.out _ HTt.out⟩
    · by_cases hk : e.kind = 2
      · obtain ⟨hp1, q, hq, hq0⟩ : e.prot = 1 ∧ ∃ q, S.ps[e.pid]? = some q ∧ q.e0 = 1 := (show EOk S e from ⟨⟨hr1, hr2, ha1, ha2⟩, hkind⟩).from hk
        have e1 : rdE S L n many = pRdE q many := by unfold rdE; rw [hx]; show (if e.prot = 2 then 13 else if e.kind = 2 then _ else _) = _; rw [if_neg hp, if_pos hk, hq]; rfl
        have e2 : rdS S L n many = pipeS S e.pid (pRdQ q many) := by unfold rdS; rw [hx]; show (if e.prot = 2 then S else if e.kind = 2 then _ else _) = _; rw [if_neg hp, if_pos hk, hq]; rfl
        have e3 : rdB S L n many = pRd q many := by unfold rdB; rw [hx]; show (if e.prot = 2 then _ else if e.kind = 2 then _ else _) = _; rw [if_neg hp, if_pos hk, hq]; rfl
        rw [e1, e2, e3]
        have HP := hid hp1
        have HK := hid hk
        have HQ := hid hq
        obtain ⟨hb1, hb2, hb3⟩ := hS.pipes e.pid q hq
        have HB1 := hid hb1
        have HB3 := hid hb3
        clear hin hS ht hok hn hx e1 e2 e3 he hkind hp hk hp1 hq hb1 hb2 hb3
        go_enter Tryz.func125, Tryz.ntmps125
        go_wp2_with (first | (go_at_call 222; refine HG.out.mono ?_; rintro e w' ⟨rfl, t⟩; have HTt := hid t; clear t; have HI1 := hid (HI.out.turned HTt.out (fun _ _ => id)); have c1 := (HI1.out.en _ _ HE.out).c1; have c0 := (HI1.out.en _ _ HE.out).c0; have c3 := pipe_ptr (HI1.out.en _ _ HE.out) (by rw [HK.out]; decide); rw [HP.out] at c1; rw [HK.out] at c0) | (go_at_call 226; refine (pread_is (HI1.out.pp _ _ HQ.out) many (by have := HB1.out; omega) HB3.out).mono ?_; rintro e w2 ⟨rfl, hp2, t2⟩; have HP2 := hid hp2; have HT2 := hid t2; clear hp2 t2))
        go_ret2
        exact ⟨rfl, .same (HI1.out.pipe HQ.out HP2.out HT2.out) ((HT.out.turned HTt.out id).turned HT2.out (fun x => HN.out (x ▸ (show C _ ≠ _ from by rw [HI1.out.cp e.pid q HQ.out]; simp)))) ((no_turn HTt.out).trans (HT2.out.mono (fun j _ hj => .inl (hj ▸ (show C _ ≠ _ from by rw [HI1.out.cp e.pid q HQ.out]; simp))))) HN.out⟩
      · have hk1 : e.kind = 1 := by rcases hkind with h1 | h1 | h1 <;> omega
        have hp13 : e.prot = 1 ∨ e.prot = 3 := by rcases hkind with h1 | h1 | h1 <;> omega
        have e1 : rdE S L n many = readE S.T e.node e.at' many := by unfold rdE; rw [hx]; show (if e.prot = 2 then 13 else if e.kind = 2 then _ else _) = _; rw [if_neg hp, if_neg hk]
        have e2 : rdS S L n many = putS S k { e with at' := e.at' + (readT S.T e.node e.at' many).size } := by unfold rdS; rw [hx]; show (if e.prot = 2 then S else if e.kind = 2 then _ else _) = _; rw [if_neg hp, if_neg hk]
        have e3 : rdB S L n many = readT S.T e.node e.at' many := by unfold rdB; rw [hx]; show (if e.prot = 2 then _ else if e.kind = 2 then _ else _) = _; rw [if_neg hp, if_neg hk]
        rw [e1, e2, e3]
        have HK := hid hk1
        have hsz := readT_size hS hin.tr.ok e.node e.at' many
        obtain ⟨X, hX⟩ : ∃ X, readT S.T e.node e.at' many = X := ⟨_, rfl⟩
        rw [hX] at hsz ⊢
        have HX := hid hX
        have hw : IntKind.i64.wrap (e.at' + (X.size : Int)) = e.at' + (X.size : Int) := IntWalk.i64_in _ (by omega)
        have HP : Hid (e.prot = 1 ∨ e.prot = 3) := hid hp13
        clear hin hS ht hok hn hx e1 e2 e3 he hkind hp hk hk1 hX hp13
        go_enter Tryz.func125, Tryz.ntmps125
        go_upto_region 4 with (go_at_call 222; refine HG.out.mono ?_; rintro e w' ⟨rfl, t⟩; have HTt := hid t; clear t; have HI1 := hid (HI.out.turned HTt.out (fun _ _ => id)))
        go_cut [24] (fun v wx => v = .bool false ∧ wx = w')
        case first =>
          as_aux_lemma =>
            have c1 := (HI1.out.en _ _ HE.out).c1
            rcases HP.out with hp | hp
            all_goals rw [hp] at c1
            all_goals go_wp2_with fail
            all_goals go_meet
            all_goals exact ⟨rfl, rfl⟩
        case rest =>
          obtain ⟨rfl, rfl⟩ := hcut
          have c0 := (HI1.out.en _ _ HE.out).c0
          have c2 := (HI1.out.en _ _ HE.out).c2
          have c4 := (HI1.out.en _ _ HE.out).c4
          have h0 := HI1.out.h0
          rw [HK.out] at c0
          go_upto_region 8 with fail
          have HC := hid (read_is (HI1.out.turned (X := fun _ => False) (Turn.refl _ _).drew (fun _ _ => id)).tr e.node e.at' many)
          rw [HX.out] at HC
          go_region_with (go_at_call 29; refine HC.out.mono ?_; rintro e w2 ⟨rfl, t2⟩; have HT2 := hid (((Turn.refl (fun _ => False) _).drew).trans t2); clear t2; have HI2 := hid (HI1.out.turned HT2.out (fun _ _ => id)); have d4 := (HI2.out.en _ _ HE.out).c4; have z4 := (HI2.out.en _ _ HE.out).fz 4)
          all_goals go_wp2_with fail
          all_goals go_ret2
          all_goals exact ⟨rfl, .same (HI2.out.put HE.out ((HI2.out.en _ _ HE.out).setAt _) (turn_own _ _ _ _)) (((HT.out.turned HTt.out id).turned HT2.out id).turned (turn_own (B k) _ _ _) (fun e => HN.out (e ▸ HI2.out.foot HE.out))) (((no_turn HTt.out).trans (no_turn HT2.out)).trans (turn_ent C tab (HI2.out.foot HE.out) _ _ _)) HN.out⟩
end
end Go.Proofs.YtiohpmcedfbcgacGreatDoor
/- Package desc: Write. Conditions: each theorem's own premises. -/
namespace Go.Proofs.YtiohpmcedfbcgacGreatDoor
open Go.RowKit
set_option linter.unusedVariables false
def limB (e : PE) (s : ByteArray) (most : Int) : Bool := decide (s.size ≠ 0 ∧ (most < s.size ∨ most - s.size < e.at'))
def wrE (S : PS) (L : PTab) (n : Int) (s : ByteArray) (most : Int) : Int := (entL S L n).elim 7 fun x => if x.2.prot = 1 then 13 else if x.2.kind = 3 then (S.ps[x.2.pid]?).elim 0 fun q => pWrE q s else if limB x.2 s most = true then 4 else writeE S.T x.2.node x.2.at' s
def wrK (S : PS) (L : PTab) (n : Int) (s : ByteArray) (most : Int) : Int := (entL S L n).elim 0 fun x => if x.2.prot = 1 then 0 else if x.2.kind = 3 then (S.ps[x.2.pid]?).elim 0 fun q => (pWr q s : Int) else if limB x.2 s most = true then 0 else if writeE S.T x.2.node x.2.at' s = 0 then s.size else 0
def wrS (S : PS) (L : PTab) (n : Int) (s : ByteArray) (most : Int) : PS := (entL S L n).elim S fun x => if x.2.prot = 1 then S else if x.2.kind = 3 then (S.ps[x.2.pid]?).elim S fun q => pipeS S x.2.pid (pWrQ q s) else if limB x.2 s most = true then S
  else if writeE S.T x.2.node x.2.at' s = 0 then putS (treeS S (writeT S.T x.2.node x.2.at' s)) x.1 { x.2 with at' := x.2.at' + s.size } else S
section
variable {w w' w1 w2 : World} {fb tb om b tab : Nat} {S S' : PS} {B : Int → Nat} {P : Nat → Nat} {Ft F : Nat → Prop} {C : Nat → Nat × Int} {e e' : PE} {k n : Int} {L L' : PTab}
set_option maxHeartbeats 4000000 in
set_option maxRecDepth 100000 in
theorem dwrite_is (h : FilesIs w fb tb S F) (hS : DOk S) (ht : TabIs w tab L) (hok : TabOk S L) (hn : ¬ F tab) (n : Int) (s : ByteArray) (hs : s.size ≤ 1000000) (most : Int) (hm1 : -9223372036854775808 ≤ most) (hm2 : most ≤ 9223372036854775807) :
    Calls Tryz.prog 119 #[.pointer (some ⟨fb, 0, none⟩), .pointer (some ⟨tab, 0, none⟩), .int .i64 n, .string s, .int .i64 most] w fun e w' => e = .returned (.tuple #[.int .i64 (wrK S L n s most), TErr (wrE S L n s most)]) ∧ FilesTo fb tb tab F w w' (wrS S L n s most) L := by
  obtain ⟨om, B, P, Ft, C, hin, rfl⟩ := h
  have HSame : Hid (∀ w', Turn (fun _ => False) w w' → FilesTo fb tb tab (CFoot C) w w' S L) := hid (fun w' t => .same (hin.turned t (fun _ _ => id)) (ht.turned t id) (no_turn t) hn)
  cases hx : entL S L n with
  | none =>
    have e1 : wrE S L n s most = 7 := by unfold wrE; rw [hx]; rfl
    have e2 : wrS S L n s most = S := by unfold wrS; rw [hx]; rfl
    have e3 : wrK S L n s most = 0 := by unfold wrK; rw [hx]; rfl
    rw [e1, e2, e3]
    have HG := hid (get_none hin ht hok hx)
    clear hin ht hok hn hx e1 e2 e3
    go_enter Tryz.func119, Tryz.ntmps119
    go_wp2_with (go_at_call 222; refine HG.out.mono ?_; rintro e w' ⟨rfl, t⟩)
    go_ret2
    exact ⟨rfl, HSame.out _ t⟩
  | some x =>
    obtain ⟨k, e⟩ := x
    have he := (entL_some hx).2
    have HG := hid (get_some hin ht hok hx)
    have HI := hid hin
    have HT := hid ht
    have HN := hid hn
    have HE := hid he
    have hE := hS.ent k e he
    by_cases hp : e.prot = 1
    · have e1 : wrE S L n s most = 13 := by unfold wrE; rw [hx]; exact if_pos hp
      have e2 : wrS S L n s most = S := by unfold wrS; rw [hx]; exact if_pos hp
      have e3 : wrK S L n s most = 0 := by unfold wrK; rw [hx]; exact if_pos hp
      rw [e1, e2, e3]
      have HP := hid hp
      clear hin hS ht hok hn hx e1 e2 e3 he hE hp
      go_enter Tryz.func119, Tryz.ntmps119
      go_wp2_with (go_at_call 222; refine HG.out.mono ?_; rintro e w' ⟨rfl, t⟩; have HTt := hid t; clear t; have c1 := ((HI.out.turned HTt.out (fun _ _ => id)).en _ _ HE.out).c1; rw [HP.out] at c1)
      go_ret2
      exact ⟨rfl, HSame.out _ HTt.out⟩
    · by_cases hk : e.kind = 3
      · obtain ⟨hp1, q, hq, hq0⟩ := hE.into hk
        have e1 : wrE S L n s most = pWrE q s := by unfold wrE; rw [hx]; show (if e.prot = 1 then 13 else if e.kind = 3 then _ else _) = _; rw [if_neg hp, if_pos hk, hq]; rfl
        have e2 : wrS S L n s most = pipeS S e.pid (pWrQ q s) := by unfold wrS; rw [hx]; show (if e.prot = 1 then S else if e.kind = 3 then _ else _) = _; rw [if_neg hp, if_pos hk, hq]; rfl
        have e3 : wrK S L n s most = pWr q s := by unfold wrK; rw [hx]; show (if e.prot = 1 then _ else if e.kind = 3 then _ else _) = _; rw [if_neg hp, if_pos hk, hq]; rfl
        rw [e1, e2, e3]
        have HP := hid hp1
        have HK := hid hk
        have HQ := hid hq
        obtain ⟨hb1, hb2, hb3⟩ := hS.pipes e.pid q hq
        have HB1 := hid hb1
        have HB2 := hid hb2
        clear hin hS ht hok hn hx e1 e2 e3 he hE hp hk hp1 hq hb1 hb2 hb3
        go_enter Tryz.func119, Tryz.ntmps119
        go_wp2_with (first | (go_at_call 222; refine HG.out.mono ?_; rintro e w' ⟨rfl, t⟩; have HTt := hid t; clear t; have HI1 := hid (HI.out.turned HTt.out (fun _ _ => id)); have c1 := (HI1.out.en _ _ HE.out).c1; have c0 := (HI1.out.en _ _ HE.out).c0; have c3 := pipe_ptr (HI1.out.en _ _ HE.out) (by rw [HK.out]; decide); rw [HP.out] at c1; rw [HK.out] at c0) | (go_at_call 223; refine (pwrite_is (HI1.out.pp _ _ HQ.out) s hs HB1.out HB2.out).mono ?_; rintro e w2 ⟨rfl, hp2, t2⟩; have HP2 := hid hp2; have HT2 := hid t2; clear hp2 t2))
        go_ret2
        exact ⟨rfl, .same (HI1.out.pipe HQ.out HP2.out HT2.out) ((HT.out.turned HTt.out id).turned HT2.out (fun x => HN.out (x ▸ (show C _ ≠ _ from by rw [HI1.out.cp e.pid q HQ.out]; simp)))) ((no_turn HTt.out).trans (HT2.out.mono (fun j _ hj => .inl (hj ▸ (show C _ ≠ _ from by rw [HI1.out.cp e.pid q HQ.out]; simp))))) HN.out⟩
      · have hk1 : e.kind = 1 := by rcases hE.2 with h1 | h1 | h1 <;> omega
        have hp13 : e.prot = 2 ∨ e.prot = 3 := by rcases hE.2 with h1 | h1 | h1 <;> omega
        obtain ⟨⟨hr1, hr2, ha1, ha2⟩, _⟩ := hE
        have e1 : wrE S L n s most = if limB e s most = true then 4 else writeE S.T e.node e.at' s := by unfold wrE; rw [hx]; show (if e.prot = 1 then 13 else if e.kind = 3 then _ else _) = _; rw [if_neg hp, if_neg hk]
        have e2 : wrS S L n s most = if limB e s most = true then S else if writeE S.T e.node e.at' s = 0 then putS (treeS S (writeT S.T e.node e.at' s)) k { e with at' := e.at' + s.size } else S := by unfold wrS; rw [hx]; show (if e.prot = 1 then S else if e.kind = 3 then _ else _) = _; rw [if_neg hp, if_neg hk]
        have e3 : wrK S L n s most = if limB e s most = true then 0 else if writeE S.T e.node e.at' s = 0 then (s.size : Int) else 0 := by unfold wrK; rw [hx]; show (if e.prot = 1 then _ else if e.kind = 3 then _ else _) = _; rw [if_neg hp, if_neg hk]
        obtain ⟨E, hEe⟩ : ∃ E, wrE S L n s most = E := ⟨_, rfl⟩
        obtain ⟨S2, hS2⟩ : ∃ S2, wrS S L n s most = S2 := ⟨_, rfl⟩
        obtain ⟨K, hKe⟩ : ∃ K, wrK S L n s most = K := ⟨_, rfl⟩
        obtain ⟨lim, hlim⟩ : ∃ lim, limB e s most = lim := ⟨_, rfl⟩
        rw [hEe, hS2, hKe]
        rw [hEe, hlim] at e1
        rw [hS2, hlim] at e2
        rw [hKe, hlim] at e3
        have E1 := hid e1
        have E2 := hid e2
        have E3 := hid e3
        have HLim := hid hlim
        have HK := hid hk1
        have hw : IntKind.i64.wrap (e.at' + (s.size : Int)) = e.at' + (s.size : Int) := IntWalk.i64_in _ (by omega)
        have HP : Hid (e.prot = 2 ∨ e.prot = 3) := hid hp13
        clear hin hS ht hok hn hx e1 e2 e3 he hp hk hk1 hp13 hEe hS2 hKe hlim
        go_enter Tryz.func119, Tryz.ntmps119
        go_upto_region 4 with (go_at_call 222; refine HG.out.mono ?_; rintro e w' ⟨rfl, t⟩; have HTt := hid t; clear t; have HI1 := hid (HI.out.turned HTt.out (fun _ _ => id)))
        go_cut [26] (fun v wx => v = .bool false ∧ wx = w')
        case first =>
          as_aux_lemma =>
            have c1 := (HI1.out.en _ _ HE.out).c1
            rcases HP.out with hp | hp
            all_goals rw [hp] at c1
            all_goals go_wp2_with fail
            all_goals go_meet
            all_goals exact ⟨rfl, rfl⟩
        case rest =>
          obtain ⟨rfl, rfl⟩ := hcut
          have c0 := (HI1.out.en _ _ HE.out).c0
          rw [HK.out] at c0
          go_upto_region 8 with fail
          go_cut [48] (fun v wx => v = .bool lim ∧ wx = wc)
          case first =>
            as_aux_lemma =>
              have c4 := (HI1.out.en _ _ HE.out).c4
              by_cases h1 : s.size = 0
              · have hb : s.toList.isEmpty = true := by rw [toList_empty]; exact decide_eq_true h1
                have hl : lim = false := by rw [← HLim.out]; unfold limB; exact decide_eq_false (fun h => h.1 h1)
                have HL := hid hl
                clear h1 hl
                go_wp2_with fail
                go_meet
                exact ⟨by rw [HL.out], rfl⟩
              · have hb : s.toList.isEmpty = false := by rw [toList_empty]; exact decide_eq_false h1
                by_cases h2 : most < s.size
                · have hl : lim = true := by rw [← HLim.out]; unfold limB; exact decide_eq_true ⟨h1, .inl h2⟩
                  have HL := hid hl
                  clear h1 hl
                  go_wp2_with fail
                  go_meet
                  exact ⟨by rw [HL.out], rfl⟩
                · have hw2 : IntKind.i64.wrap (most - (s.size : Int)) = most - (s.size : Int) := IntWalk.i64_in _ (by omega)
                  have hl : lim = decide (most - s.size < e.at') := by rw [← HLim.out]; unfold limB; exact decide_eq_decide.2 ⟨fun h => h.2.resolve_left h2, fun h => ⟨h1, .inr h⟩⟩
                  have HL := hid hl
                  have h3 : ¬ (most : Int) < s.size := h2
                  clear h1 hl
                  go_wp2_with fail
                  go_meet
                  exact ⟨by rw [HL.out], rfl⟩
          case rest =>
            obtain ⟨rfl, rfl⟩ := hcut
            cases lim with
            | true =>
              have F1 := hid (E1.out.trans (if_pos rfl))
              have F2 := hid (E2.out.trans (if_pos rfl))
              have F3 := hid (E3.out.trans (if_pos rfl))
              clear E1 E2 E3
              go_wp2_with fail
              go_ret2
              rw [F1.out, F2.out, F3.out]
              exact ⟨rfl, HSame.out _ HTt.out⟩
            | false =>
              have c2 := (HI1.out.en _ _ HE.out).c2
              have c4 := (HI1.out.en _ _ HE.out).c4
              have h0 := HI1.out.h0
              go_upto_region 10 with fail
              have f1 := E1.out.trans (if_neg (by decide))
              have f2 := E2.out.trans (if_neg (by decide))
              have f3 := E3.out.trans (if_neg (by decide))
              have HC := hid (write_is (HI1.out.turned (X := fun _ => False) (Turn.refl _ _).drew (fun _ _ => id)).tr e.node e.at' s (by omega))
              by_cases hz : writeE S.T e.node e.at' s = 0
              · rw [hz] at f1
                rw [hz, if_pos rfl] at f2 f3
                rw [hz, show TErr 0 = Value.nilIface from if_pos rfl] at HC
                have F1 := hid f1
                have F2 := hid f2
                have F3 := hid f3
                clear f1 f2 f3 hz E1 E2 E3
                go_region_with (go_at_call 28; refine HC.out.mono ?_; rintro e w2 ⟨rfl, h2⟩; have HW2 := hid h2; clear h2)
                all_goals (
                  obtain ⟨Ft', C', hi2, hC2, ht2⟩ := (HI1.out.turned (X := fun _ => False) (Turn.refl _ _).drew (fun _ _ => id)).tree HW2.out
                  have HI2 := hid hi2
                  have HC2 := hid hC2
                  have HT2 := hid ht2
                  clear hi2 hC2 ht2
                  have he2 := HI2.out.en _ _ HE.out
                  have d4 := he2.c4
                  have z4 := he2.fz 4
                  clear he2)
                all_goals go_wp2_with fail
                all_goals go_ret2
                all_goals rw [F1.out, F2.out, F3.out]
                all_goals (
                  have htab : C' tab = C tab := (HC2.out tab).resolve_right (by have h1 : tab < wc.drew.heap.size := (HT.out.turned HTt.out id).lt; omega)
                  have hn2 : ¬ CFoot C' tab := fun hx => HN.out (by have hx : C' tab ≠ _ := hx; rw [htab] at hx; exact hx)
                  have hB2 : CFoot C (B k) := HI1.out.foot HE.out
                  have hB3 : CFoot C' (B k) := HI2.out.foot HE.out
                  refine ⟨rfl, .of (HI2.out.put HE.out ((HI2.out.en _ _ HE.out).setAt _) (turn_own _ _ _ _)) ((((HT.out.turned HTt.out id).turned (S := fun _ => False) (Turn.refl _ _).drew id).turned HT2.out HN.out).turned (turn_own (B k) _ _ _) (fun e => hn2 (e ▸ hB3))) (((no_turn HTt.out).drew.trans (HT2.out.mono (fun j _ hj => .inl hj))).trans (turn_ent C tab hB2 _ _ _)) (fun j hj => ?_) hn2⟩
                  rcases HC2.out j with h1 | h1
                  · exact .inl (by have hj : C' j ≠ _ := hj; rw [h1] at hj; exact hj)
                  · exact .inr (Nat.le_trans HTt.out.size h1))
              · rw [if_neg hz] at f2 f3
                have hte := TErr_of hz
                have hwt : writeT S.T e.node e.at' s = S.T := if_neg (fun h => hz h.1)
                rw [hte, hwt] at HC
                have F1 := hid f1
                have F2 := hid f2
                have F3 := hid f3
                have HZ := hid hte
                clear f1 f2 f3 hz E1 E2 E3 hte hwt
                go_region_with (go_at_call 28; refine HC.out.mono ?_; rintro e w2 ⟨rfl, h2⟩; have HW2 := hid h2; clear h2)
                all_goals go_wp2_with fail
                all_goals go_ret2
                all_goals rw [F1.out, F2.out, F3.out, HZ.out]
                all_goals (
                  obtain ⟨Ft', C', hi2, hC2, ht2⟩ := (HI1.out.turned (X := fun _ => False) (Turn.refl _ _).drew (fun _ _ => id)).tree HW2.out
                  have htab : C' tab = C tab := (hC2 tab).resolve_right (by have h1 : tab < wc.drew.heap.size := (HT.out.turned HTt.out id).lt; omega)
                  have hn2 : ¬ CFoot C' tab := fun hx => HN.out (by have hx : C' tab ≠ _ := hx; rw [htab] at hx; exact hx)
                  refine ⟨rfl, .of hi2 (((HT.out.turned HTt.out id).turned (S := fun _ => False) (Turn.refl _ _).drew id).turned ht2 HN.out) ((no_turn HTt.out).drew.trans (ht2.mono (fun j _ hj => .inl hj))) (fun j hj => ?_) hn2⟩
                  rcases hC2 j with h1 | h1
                  · exact .inl (by have hj : C' j ≠ _ := hj; rw [h1] at hj; exact hj)
                  · exact .inr (Nat.le_trans HTt.out.size h1))
end
end Go.Proofs.YtiohpmcedfbcgacGreatDoor
