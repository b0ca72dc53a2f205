/- The document's Cache: Alloc. Conditions: each theorem's own premises. -/
import Derived.Test.YtiohpmcedfbcgabDoorRefSlab
import Derived.Test.YtiohpmcedfbcgabDoorTwoPools
import Derived.Test.YtiohpmcedfbcgabDoorSortInts
import Derived.Test.YtiohpmcedfbcgabDoorIntsGrow
import Derived.Deep.LoopGhost
import Derived.Outline
namespace Go.Proofs.YtiohpmcedfbcgabDoor
open Go.RowKit
set_option linter.unusedVariables false

/-- One round over the frames: the first one that is wanted, if there is none yet. -/
def docPass (h : Int → Nat) (per : Nat) (want : Bool) : List Int → Int → Int
  | [], f => f
  | s :: fs, f => docPass h per want fs (if f < 0 ∧ h s < per ∧ decide (0 < h s) = want then s else f)
theorem docPass_yes {h : Int → Nat} {per : Nat} {want : Bool} {s : Int} {fs : List Int} {f : Int} (h1 : f < 0) (h2 : h s < per) (h3 : decide (0 < h s) = want) : docPass h per want (s :: fs) f = docPass h per want fs s := by
  show docPass h per want fs (if _ then _ else _) = _
  rw [if_pos ⟨h1, h2, h3⟩]
theorem docPass_no {h : Int → Nat} {per : Nat} {want : Bool} {s : Int} {fs : List Int} {f : Int} (h1 : ¬ (f < 0 ∧ h s < per ∧ decide (0 < h s) = want)) : docPass h per want (s :: fs) f = docPass h per want fs f := by
  show docPass h per want fs (if _ then _ else _) = _
  rw [if_neg h1]
def docPick (h : Int → Nat) (per : Nat) (fs : List Int) : Int := docPass h per false fs (docPass h per true fs (-1))
theorem docPass_mem (h : Int → Nat) (per : Nat) (want : Bool) : ∀ (fs : List Int) (f : Int), docPass h per want fs f = f ∨ (docPass h per want fs f ∈ fs ∧ h (docPass h per want fs f) < per)
  | [], f => .inl rfl
  | s :: fs, f => by
    unfold docPass
    rcases docPass_mem h per want fs (if f < 0 ∧ h s < per ∧ decide (0 < h s) = want then s else f) with h1 | ⟨h1, h2⟩
    · rw [h1]
      split
      · rename_i hc
        exact .inr ⟨List.mem_cons_self .., hc.2.1⟩
      · exact .inl rfl
    · exact .inr ⟨List.mem_cons_of_mem _ h1, h2⟩
theorem docPick_mem (h : Int → Nat) (per : Nat) (fs : List Int) : docPick h per fs = -1 ∨ (docPick h per fs ∈ fs ∧ h (docPick h per fs) < per) := by
  unfold docPick
  rcases docPass_mem h per false fs (docPass h per true fs (-1)) with h1 | h1
  · rw [h1]; exact docPass_mem h per true fs (-1)
  · exact .inr h1
theorem two_is0 (w : World) : (Instr.index 181 (.agg #[.bool true, .bool false]) (.int .i64 0)).run Tryd.prog w = .ok (.bool true) w := by kernel_rfl
theorem two_is1 (w : World) : (Instr.index 181 (.agg #[.bool true, .bool false]) (.int .i64 1)).run Tryd.prog w = .ok (.bool false) w := by kernel_rfl
theorem two_is (k : Nat) (hk : k < 2) (w : World) : (Instr.index 181 (.agg #[.bool true, .bool false]) (.int .i64 k)).run Tryd.prog w = .ok (.bool (decide (k = 0))) w := by
  match k, hk with
  | 0, _ => exact two_is0 w
  | 1, _ => exact two_is1 w

/-- A thing made in a frame that has been there. -/
def RefOld (rp dc tm per : Nat) (v : Value) (fs : List Int) (tl : List (Int × Unit)) (f0 : Int) (w : World) (e : Ending) (w' : World) : Prop :=
  0 ≤ f0 ∧ ∃ j : Nat, j < per ∧ mget tl (f0 * per + j) = none ∧ (∀ i : Nat, i < j → (mget tl (f0 * per + i)).isSome = true) ∧ e = .returned (.tuple #[.int .i64 (f0 * per + j), .int .i64 0]) ∧
    CacheAt w' dc tm rp per v fs (mput tl (f0 * per + j) ()) ∧ Turn (fun k => k = tm) w w'
/-- There is no frame. -/
def RefFull (dc : Nat) (fr : Fr) (f0 : Int) (w : World) (e : Ending) (w' : World) : Prop :=
  f0 < 0 ∧ (∀ k, k < 7 → fr k = []) ∧ e = .returned (.tuple #[.int .i64 0, .int .i64 12]) ∧ Turn (fun _ => False) w w'
/-- A thing made in a new frame: the least of the lowest order that has any. -/
def RefNew (rp fb rmb cp n : Nat) (g : Bits) (tk : List Bk) (fr : Fr) (dc tm per : Nat) (v : Value) (fs : List Int) (tl : List (Int × Unit)) (f0 : Int) (w : World) (e : Ending) (w' : World) : Prop :=
  f0 < 0 ∧ ∃ (k : Nat) (base : Int) (v' : Value), k < 7 ∧ (∀ j, j < k → fr j = []) ∧ base ∈ fr k ∧ (∀ c ∈ fr k, base ≤ c) ∧ e = .returned (.tuple #[.int .i64 (base * per), .int .i64 0]) ∧
    CacheAt w' dc tm rp per v' (msort (fs ++ [base])) (mput tl (base * per) ()) ∧ RefAt w' rp fb rmb cp n (fill g base (base + 1) false) (mput tk base 0) ∧ Turn (fun k => CFoot dc tm v k ∨ RefFoot rp fb rmb k) w w' ∧
    ∀ q, v'.ownBlock = some q → v.ownBlock = some q ∨ w.heap.size ≤ q
section
variable {w w' w3 : World} {dc tm rp per : Nat} {v : Value} {fs xs : List Int} {tl : List (Int × Unit)}
theorem CacheAt.resliced (h : CacheAt w dc tm rp per v fs tl) {g n z : Nat} (hi : IntsAt w3 (.slice (some ⟨g, 0, none⟩) n z) xs) (t : Turn (fun j => v.ownBlock = some j) w w3) (ho : v.ownBlock = some g ∨ w.heap.size ≤ g) :
    CacheAt (w3.setCell ⟨dc, 3, none⟩ (.slice (some ⟨g, 0, none⟩) n z)) dc tm rp per (.slice (some ⟨g, 0, none⟩) n z) xs tl := by
  have hd : dc < w.heap.size := lt_of_cell h.c0
  have hdn : ¬ v.ownBlock = some dc := fun e => (h.nv dc e).1 rfl
  have htn : ¬ v.ownBlock = some tm := fun e => (h.nv tm e).2 rfl
  have hnv : g ≠ dc ∧ g ≠ tm := by
    rcases ho with e | e
    · exact h.nv g e
    · have := h.mp.lt
      exact ⟨by omega, by omega⟩
  have s : Turn (fun j => j = dc) w3 (w3.setCell ⟨dc, 3, none⟩ (.slice (some ⟨g, 0, none⟩) n z)) := (Turn.refl _ _).setCell _ _ (fun _ => rfl)
  refine ⟨?_, ?_, ?_, World.cell?_setCell_same _ _ _ ((t.cell (a := ⟨dc, 3, none⟩) hd hdn).trans h.c3), fun i => ?_, hi.turned s (fun q hq e => hnv.1 (by cases hq; exact e)), (h.mp.turned t htn).turned s (fun e => h.ne e.symm), h.ne, fun q hq => by cases hq; exact hnv⟩
  · rw [World.cell?_setCell_other _ _ _ _ (by simp)]; exact (t.cell (a := ⟨dc, 0, none⟩) hd hdn).trans h.c0
  · rw [World.cell?_setCell_other _ _ _ _ (by simp)]; exact (t.cell (a := ⟨dc, 1, none⟩) hd hdn).trans h.c1
  · rw [World.cell?_setCell_other _ _ _ _ (by simp)]; exact (t.cell (a := ⟨dc, 2, none⟩) hd hdn).trans h.c2
  · have := (t.frozen (a := ⟨dc, i, none⟩) hd hdn).trans (h.fz i)
    simpa using this
theorem CacheAt.reordered (h : CacheAt w dc tm rp per v fs tl) (hi : IntsAt w' v xs) (t : Turn (fun j => v.ownBlock = some j) w w') : CacheAt w' dc tm rp per v xs tl := by
  have hd : dc < w.heap.size := lt_of_cell h.c0
  have hdn : ¬ v.ownBlock = some dc := fun e => (h.nv dc e).1 rfl
  have htn : ¬ v.ownBlock = some tm := fun e => (h.nv tm e).2 rfl
  exact ⟨(t.cell (a := ⟨dc, 0, none⟩) hd hdn).trans h.c0, (t.cell (a := ⟨dc, 1, none⟩) hd hdn).trans h.c1, (t.cell (a := ⟨dc, 2, none⟩) hd hdn).trans h.c2, (t.cell (a := ⟨dc, 3, none⟩) hd hdn).trans h.c3,
    fun i => (t.frozen (a := ⟨dc, i, none⟩) hd hdn).trans (h.fz i), hi, h.mp.turned t htn, h.ne, h.nv⟩
end
section
variable {w : World} {rp fb rmb cp n : Nat} {g : Bits} {tk : List Bk} {dc tm per : Nat} {v : Value} {fs : List Int} {tl : List (Int × Unit)}
def wantOf (k : Nat) : Bool := decide (k = 0)
/-- What is picked behind k rounds. -/
def docAt (h : Int → Nat) (per : Nat) (fs : List Int) (k : Nat) : Int := match k with
  | 0 => -1
  | 1 => docPass h per true fs (-1)
  | _ => docPick h per fs
theorem docAt_step (h : Int → Nat) (per : Nat) (fs : List Int) (k : Nat) (hk : k < 2) : docPass h per (decide (k = 0)) fs (docAt h per fs k) = docAt h per fs (k + 1) := by
  match k, hk with
  | 0, _ => rfl
  | 1, _ => rfl
set_option maxHeartbeats 4000000 in
set_option maxRecDepth 100000 in
theorem refSAlloc_any {fr : Fr} (h : CacheAt w dc tm rp per v fs tl) (h1 : 1 ≤ per) (h2 : per ≤ 16) (hf : ∀ f ∈ fs, 0 ≤ f ∧ f < 256) (hl : fs.length ≤ 256)
    (hr : RefAt w rp fb rmb cp n g tk) (hgo : Good n fr tk) (hbo : BitsOf n tk g) (hn : n ≤ 256) (hap : ∀ k, CFoot dc tm v k → ¬ RefFoot rp fb rmb k) (hnt : ∀ k b, k < 7 → b ∈ fr k → mget tl (b * per) = none) :
    Calls Tryd.prog 56 #[.pointer (some ⟨dc, 0, none⟩)] w fun e w' => RefOld rp dc tm per v fs tl (docPick (fun f => hasC tl per f per) per fs) w e w' ∨ RefFull dc fr (docPick (fun f => hasC tl per f per) per fs) w e w' ∨ RefNew rp fb rmb cp n g tk fr dc tm per v fs tl (docPick (fun f => hasC tl per f per) per fs) w e w' := by
  have HR := hid hr
  have HGo := hid hgo
  have HBo := hid hbo
  have HAp := hid hap
  have HNt := hid hnt
  have H := hid h
  have HF := hid hf
  have c3 := h.c3
  obtain ⟨a, cap, rfl⟩ : ∃ a cap, v = .slice a fs.length cap := h.fr.slice
  clear h hf hr hgo hbo hap hnt
  go_enter Tryd.func56, Tryd.ntmps56
  go_wp2_with fail
  go_loopg [4, 13] 2 (fun gl fv i wr => ∃ k : Nat, k + gl = 2 ∧ i = .int .i64 k ∧ fv = .int .i64 (docAt (fun f => hasC tl per f per) per fs k) ∧ Hid (Turn (fun _ => False) w wr))
  case atStart => exact ⟨0, by omega, rfl, rfl, hid (Turn.refl _ _)⟩
  case round =>
    obtain ⟨k, hk, rfl, rfl, hT⟩ := hrel
    by_cases hlt : k < 2
    · have hlt' : (k : Int) < 2 := by omega
      have hix := two_is k hlt wr
      have hst := docAt_step (fun f => hasC tl per f per) per fs k hlt
      obtain ⟨want, hw⟩ : ∃ want, decide (k = 0) = want := ⟨_, rfl⟩
      obtain ⟨tgt, htg⟩ : ∃ tgt, docAt (fun f => hasC tl per f per) per fs (k + 1) = tgt := ⟨_, rfl⟩
      obtain ⟨x0, hx0⟩ : ∃ x0, docAt (fun f => hasC tl per f per) per fs k = x0 := ⟨_, rfl⟩
      rw [hw] at hix
      rw [hw, htg, hx0] at hst
      have HSt := hid hst
      have HTg := hid htg
      have HC := hid (H.out.turned hT.out (fun _ _ => id))
      have c3 := HC.out.c3
      clear hst htg hw
      rw [hx0]
      clear hx0
      go_wp2_with fail
      go_loopg [4, 21] fs.length (fun gl fv i wr2 => ∃ (j : Nat) (x : Int), j + gl = fs.length ∧ i = .int .i64 j ∧ fv = .int .i64 x ∧ docPass (fun f => hasC tl per f per) per want (fs.drop j) x = tgt ∧ Hid (Turn (fun _ => False) w wr2))
      case atStart => exact ⟨0, x0, by omega, rfl, rfl, HSt.out, hT⟩
      case round =>
        clear hT HC c3
        obtain ⟨j, x, hj, rfl, rfl, hps, hT⟩ := hrel
        by_cases hjl : j < fs.length
        · have hjl' : (j : Int) < fs.length := by omega
          have HC := hid (H.out.turned hT.out (fun _ _ => id))
          obtain ⟨s, hs⟩ : ∃ s, fs[j]? = some s := ⟨_, List.getElem?_eq_getElem hjl⟩
          have hdrop : fs.drop j = s :: fs.drop (j + 1) := by rw [List.drop_eq_getElem_cons hjl, (List.getElem?_eq_some_iff.1 hs).2]
          obtain ⟨g, hg, hcell⟩ : ∃ g, a = some ⟨g, 0, none⟩ ∧ wr.cell? ⟨g, j, none⟩ = some (.int .i64 s) := by
            rcases HC.out.fr.shape with ⟨_, h2⟩ | ⟨g, cap, h1, _⟩
            · rw [h2] at hjl; simp at hjl
            · cases h1
              exact ⟨g, rfl, HC.out.fr.cell j s hs⟩
          subst hg
          obtain ⟨hs0, hs1⟩ := HF.out s (List.mem_of_getElem? hs)
          have HHas := hid (refHas_is HC.out h1 h2 s hs0 hs1)
          rw [hdrop] at hps
          clear hdrop hs
          obtain ⟨N, hN⟩ : ∃ N, hasC tl per s per = N := ⟨_, rfl⟩
          rw [hN] at HHas
          have hNle : N ≤ 16 := by rw [← hN]; exact Nat.le_trans (cntB_le _ _) h2
          have HN := hid hN
          clear hN HC
          go_wp2_with fail
          refine HHas.out.mono ?_
          rintro e w2 ⟨rfl, t2⟩
          have hT2 := hT.out.trans t2
          have HT2 := hid hT2
          have c1 := (H.out.turned hT2 (fun _ _ => id)).c1
          clear hT t2 hT2 HHas hcell
          by_cases hc : x < 0 ∧ N < per ∧ decide (0 < N) = want
          · rw [docPass_yes hc.1 (by simp only [HN.out]; exact hc.2.1) (by simp only [HN.out]; exact hc.2.2)] at hps
            obtain ⟨k1, k2, k3⟩ := hc
            have HPs := hid hps
            have k2' : (N : Int) < per := by omega
            have k3' : (decide (0 < N) == want) = true := by rw [← k3]; simp
            clear hps k3
            go_wp2_with fail
            go_roundg (gk - 1)
            case measure => omega
            case rel => exact ⟨j + 1, s, by omega, by go_num, rfl, HPs.out, HT2⟩
          · rw [docPass_no (by simp only [HN.out]; exact hc)] at hps
            have HPs := hid hps
            clear hps
            by_cases k1 : x < 0
            · by_cases k2 : N < per
              · have k2' : (N : Int) < per := by omega
                have k3' : (decide (0 < N) == want) = false := by
                  cases hd : (decide (0 < N) == want) with
                  | false => rfl
                  | true => exact absurd ⟨k1, k2, eq_of_beq hd⟩ hc
                clear hc
                go_wp2_with fail
                go_roundg (gk - 1)
                case measure => omega
                case rel => exact ⟨j + 1, x, by omega, by go_num, rfl, HPs.out, HT2⟩
              · have k2' : ¬ (N : Int) < per := by omega
                clear hc
                go_wp2_with fail
                go_roundg (gk - 1)
                case measure => omega
                case rel => exact ⟨j + 1, x, by omega, by go_num, rfl, HPs.out, HT2⟩
            · clear hc
              go_wp2_with fail
              go_roundg (gk - 1)
              case measure => omega
              case rel => exact ⟨j + 1, x, by omega, by go_num, rfl, HPs.out, HT2⟩
        · have hjl' : ¬ (j : Int) < fs.length := by omega
          rw [List.drop_eq_nil_of_le (by omega)] at hps
          have hx : x = tgt := hps
          subst hx
          go_wp2_with fail
          go_roundg (2 - (k + 1))
          case measure => omega
          case rel => exact ⟨k + 1, by omega, by go_num, by rw [HTg.out], hT⟩
    · have hlt' : ¬ (k : Int) < 2 := by omega
      obtain rfl : k = 2 := by omega
      have hpk : docAt (fun f => hasC tl per f per) per fs 2 = docPick (fun f => hasC tl per f per) per fs := rfl
      rw [hpk]
      obtain ⟨f0, hf0⟩ : ∃ f0, docPick (fun f => hasC tl per f per) per fs = f0 := ⟨_, rfl⟩
      rw [hf0]
      have HF0 := hid hf0
      clear hf0 hpk
      by_cases hneg : f0 < 0
      · have HC := hid (H.out.turned hT.out (fun _ _ => id))
        have HRr := hid (HR.out.turned hT.out (fun _ _ => id))
        have c0 := HC.out.c0
        by_cases hno : ∀ k, 0 ≤ k → k < 7 → fr k = []
        · have HRa := hid (refAlloc_any HRr.out HGo.out HBo.out hn 0 (by omega) (-1) 0 (fun l hl => best_none (n := n) (tk := tk) hno l hl) (fun h => by omega))
          have HNo := hid hno
          clear hno
          go_wp2_with fail
          refine HRa.out.mono ?_
          rintro e w6 (⟨_, rfl, t6⟩ | ⟨h0, _⟩)
          · have HT6 := hid (hT.out.trans t6)
            clear t6
            go_wp2_with fail
            go_ret2
            exact .inr (.inl ⟨by rw [HF0.out]; exact hneg, fun k hk => HNo.out k (by omega) hk, rfl, HT6.out⟩)
          · exact absurd h0 (by decide)
        · obtain ⟨k, hok, hk7, hne, hlow⟩ := order_pick hno
          obtain ⟨base, hbm, hbl⟩ := least_pick hne
          obtain ⟨_, hb0, _, hbn⟩ := HGo.out.okF k base hk7 hbm
          have hso := sz_pos k
          have HRa := hid (refAlloc_any HRr.out HGo.out HBo.out hn 0 (by omega) base k (fun l hl => best_some HGo.out hok hk7 hlow hbm hbl l hl) (fun h => by have e : sz 0 = 1 := rfl; omega))
          have HPick := hid (And.intro hlow (And.intro hbm (And.intro hbl hk7)))
          have hnone := HNt.out k base hk7 hbm
          have hb2 : base < 256 := by omega
          clear hno hlow hbl hne hbn hso
          go_wp2_with fail
          refine HRa.out.mono ?_
          rintro e w6 (⟨h0, _⟩ | ⟨_, rfl, hr6, t6⟩)
          · exact absurd h0 (by simp only; omega)
          · have HR6 := hid hr6
            have HT6 := hid t6
            have hC6 := HC.out.turned t6 (fun k hk e => HAp.out k hk (.inr e))
            have hC7 := hC6.turned ((Turn.refl (fun _ => False) w6).alloc (.cells #[.int .i64 base] 3)) (fun _ _ => id)
            have c3 := hC7.c3
            have HC6 := hid hC6
            have HC7 := hid hC7
            have HS3 : Hid (∀ w3, Turn (fun j => (Value.slice a fs.length cap).ownBlock = some j) (w6.alloc (.cells #[.int .i64 base] 3)) w3 → w3.cell? ⟨dc, 3, none⟩ = some (.slice a fs.length cap) ∧ w3.frozen? ⟨dc, 3, none⟩ = false) := hid (fun w3 t3 => by
              have hd := lt_of_cell (HC7.out.c0)
              have hdn : ¬ (Value.slice a fs.length cap).ownBlock = some dc := fun e => (HC7.out.nv dc e).1 rfl
              exact ⟨(t3.cell (a := ⟨dc, 3, none⟩) hd hdn).trans HC7.out.c3, (t3.frozen (a := ⟨dc, 3, none⟩) hd hdn).trans (HC7.out.fz 3)⟩)
            have HC1 : Hid ((w6.alloc (.cells #[.int .i64 base] 3)).cell? ⟨w6.heap.size, 0, none⟩ = some (.int .i64 base)) := hid (by simp)
            have hfl : fs.length ≤ 1000000 := by omega
            have c36 := hC6.c3
            clear t6 HRa hr6 hC6 hC7
            go_wp2_with (at_builtin; refine wpList_append_int rfl _ _ rfl (.slice a fs.length cap) fs rfl HC7.out.fr w6.heap.size 1 base rfl HC1.out hfl ?_; intro g3 z3 w3 hi3 t3 ho3; obtain ⟨hc3, hf3⟩ := HS3.out w3 t3; have HI3 := hid hi3; have HT3 := hid t3; have HO3 := hid ho3; clear hi3 t3 ho3)
            have hC8 := HC7.out.resliced HI3.out HT3.out HO3.out
            have hT8 : Turn (fun k => CFoot dc tm (.slice a fs.length cap) k ∨ RefFoot rp fb rmb k) w (w3.setCell ⟨dc, 3, none⟩ (.slice (some ⟨g3, 0, none⟩) (fs.length + 1) z3)) :=
              ((((((hT.out.mono fun _ _ h => h.elim).trans (HT6.out.mono fun k _ e => .inr (e.elim (fun e => .inr (.inl e)) fun e => .inr (.inr e)))).alloc _).trans (HT3.out.mono fun k _ e => .inl (.inr (.inr e))))).setCell _ _ (fun _ => .inl (.inl rfl)))
            have hro : ∀ {k}, RefFoot rp fb rmb k → k ≠ g3 ∧ k ≠ dc ∧ ¬ (Value.slice a fs.length cap).ownBlock = some k := fun {k} hk => by
              refine ⟨fun e => ?_, fun e => HAp.out k (.inl e) hk, fun e => HAp.out k (.inr (.inr e)) hk⟩
              rcases HO3.out with h | h
              · exact HAp.out g3 (.inr (.inr h)) (e ▸ hk)
              · have := HR6.out.foot_lt k hk
                rw [World.size_alloc] at h
                omega
            have hR8 : RefAt (w3.setCell ⟨dc, 3, none⟩ (.slice (some ⟨g3, 0, none⟩) (fs.length + 1) z3)) rp fb rmb cp n (fill g base (base + sz 0) false) (mput tk base 0) :=
              ((HR6.out.turned ((Turn.refl (fun _ => False) _).alloc _) (fun _ _ => id)).turned HT3.out (fun k hk e => (hro hk).2.2 e)).turned ((Turn.refl (fun k => k = dc) _).setCell _ _ (fun _ => rfl)) (fun k hk e => (hro hk).2.1 e)
            have hgo3 : ∀ q, (Value.slice (some ⟨g3, 0, none⟩) (fs.length + 1) z3).ownBlock = some q → (Value.slice a fs.length cap).ownBlock = some q ∨ w.heap.size ≤ q := fun q hq => by
              cases hq
              rcases HO3.out with h | h
              · exact .inl h
              · have h1 := HT6.out.size
                have h2 := hT.out.size
                rw [World.size_alloc] at h
                exact .inr (show w.heap.size ≤ g3 by omega)
            have HC8 := hid hC8
            have HT8 := hid hT8
            have HR8 := hid hR8
            have HGo3 := hid hgo3
            have HG3 := hid (fun k (hk : RefFoot rp fb rmb k) => (hro hk).1)
            have c38 := hC8.c3
            have hfl2 : (fs ++ [base]).length ≤ 1000000 := by rw [List.length_append, List.length_singleton]; omega
            clear hC8 hT8 hR8 hro hgo3 hc3 hf3 c3 c36 HS3 HC1 HI3 HT3 HO3 HC6 HC7 HT6 HR6
            generalize (w3.setCell ⟨dc, 3, none⟩ (.slice (some ⟨g3, 0, none⟩) (fs.length + 1) z3)) = w8 at *
            refine (sortInts_own HC8.out.fr hfl2).mono ?_
            rintro e w9 ⟨rfl, hi9, t9⟩
            have hC9 := HC8.out.reordered hi9 t9
            have hR9 := HR8.out.turned t9 (fun k hk e => HG3.out k hk (by cases e; rfl))
            have hT9 := HT8.out.trans' t9 (fun k hk e => (HGo3.out k e).elim (fun e => .inl (.inr (.inr e))) (fun e => by omega))
            have HC9 := hid hC9
            have HR9 := hid hR9
            have HT9 := hid hT9
            have c1 := hC9.c1
            have c2 := hC9.c2
            have hm0 : 0 ≤ base * per := Int.mul_nonneg hb0 (by omega)
            have hm1 : base * per ≤ 256 * 16 := Int.mul_le_mul (by omega) (by omega) (by omega) (by omega)
            obtain ⟨m, hmm⟩ : ∃ m, base * per = m := ⟨_, rfl⟩
            have hw1 : IntKind.i64.wrap (base * per) = m := by rw [hmm]; exact IntWalk.i64_in _ (by omega)
            have lk := lookup_thing hC9.mp m
            rw [oneAt_none (hmm ▸ hnone)] at lk
            rw [hmm] at hm0 hm1
            have HMm := hid hmm
            clear hC9 hR9 hT9 hi9 t9 HC8 HR8 HT8 hmm hnone
            go_wp2_with fail
            refine wp_loop_rounds 1 ?_
            rw [rounds_succ]
            go_wp2_with (at_mapUpdate; refine wpList_mapput rfl _ _ _ 33 3 3 rfl Tryd.underlying33 Tryd.underlying3 keyI tm rfl HC9.out.mp m rfl () rfl ?_; intro w4 hm4 t4; have HM4 := hid hm4; have HT4 := hid t4; clear hm4 t4)
            go_ret2
            refine .inr (.inr ⟨by rw [HF0.out]; exact hneg, k, base, _, hk7, fun j hj => HPick.out.1 j (Nat.zero_le _) hj, hbm, HPick.out.2.2.1, by rw [HMm.out]; rfl, ?_, ?_, ?_, HGo3.out⟩)
            · rw [HMm.out]; exact HC9.out.mapped HT4.out HM4.out
            · exact HR9.out.turned HT4.out (fun k hk e => HAp.out k (.inr (.inl e)) hk)
            · exact HT9.out.trans (HT4.out.mono fun k _ e => .inl (.inr (.inl e)))
      · have hm := docPick_mem (fun f => hasC tl per f per) per fs
        rw [HF0.out] at hm
        obtain ⟨hfm, hlt0⟩ := hm.resolve_left (by omega)
        obtain ⟨hs0, hs1⟩ := HF.out f0 hfm
        obtain ⟨j0, hj0, hno, hyes⟩ := cntB_first (g := fun j => (mget tl (f0 * per + j)).isSome) hlt0
        have HC := hid (H.out.turned hT.out (fun _ _ => id))
        have c1 := HC.out.c1
        have c2 := HC.out.c2
        have hm0 : 0 ≤ f0 * per := Int.mul_nonneg hs0 (by omega)
        have hm1 : f0 * per ≤ 256 * 16 := Int.mul_le_mul (by omega) (by omega) (by omega) (by omega)
        obtain ⟨m, hmm⟩ : ∃ m, f0 * per = m := ⟨_, rfl⟩
        have hnone : mget tl (m + j0) = none := by
          rw [← hmm]
          cases e : mget tl (f0 * per + j0) with
          | none => rfl
          | some u => simp only [e] at hno; cases hno
        have hyes2 : ∀ i : Nat, i < j0 → mget tl (m + i) = some () := fun i hi => by
          have := hyes i hi
          simp only [hmm] at this
          cases e : mget tl (m + i) with
          | none => rw [e] at this; cases this
          | some u => rfl
        have hw1 : IntKind.i64.wrap (f0 * per) = m := by rw [hmm]; exact IntWalk.i64_in _ (by omega)
        rw [hmm] at hm0 hm1
        have HNo := hid hnone
        have HYes := hid hyes2
        have HMm := hid hmm
        clear hno hyes hnone hyes2 hfm hlt0 hm hmm
        go_wp2_with fail
        go_loopg [11] j0 (fun gl kv wr2 => ∃ j : Nat, j + gl = j0 ∧ kv = .int .i64 (m + j) ∧ Hid (Turn (fun _ => False) w wr2))
        case atStart => exact ⟨0, by omega, by simp, hT⟩
        case round =>
          clear hT HC c1 c2
          obtain ⟨j, hj, rfl, hT⟩ := hrel
          have HC := hid (H.out.turned hT.out (fun _ _ => id))
          have c2 := HC.out.c2
          have lk := lookup_thing HC.out.mp (m + j)
          have hw2 : IntKind.i64.wrap (m + j + 1) = m + j + 1 := IntWalk.i64_in _ (by omega)
          by_cases hlt : j < j0
          · rw [oneAt_some (HYes.out j hlt)] at lk
            go_wp2_with fail
            go_roundg (gk - 1)
            case measure => omega
            case rel => exact ⟨j + 1, by omega, by go_num, hT⟩
          · obtain rfl : j = j0 := by omega
            rw [oneAt_none HNo.out] at lk
            go_wp2_with (at_mapUpdate; refine wpList_mapput rfl _ _ _ 33 3 3 rfl Tryd.underlying33 Tryd.underlying3 keyI tm rfl HC.out.mp (m + j) rfl () rfl ?_; intro w4 hm4 t4; have HM4 := hid hm4; have HT4 := hid t4; clear hm4 t4)
            go_ret2
            refine .inl ⟨by rw [HF0.out]; omega, j, hj0, ?_⟩
            rw [HF0.out, HMm.out]
            exact ⟨HNo.out, fun i hi => by rw [HYes.out i hi]; rfl, rfl, HC.out.mapped HT4.out HM4.out, (hT.out.mono fun _ _ h => h.elim).trans HT4.out⟩
end
end Go.Proofs.YtiohpmcedfbcgabDoor
