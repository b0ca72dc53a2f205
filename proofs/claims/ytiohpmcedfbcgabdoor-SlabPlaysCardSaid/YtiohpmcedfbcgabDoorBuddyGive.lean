/- Package buddy: Give. Conditions: each theorem's own premises. -/
import Derived.Test.YtiohpmcedfbcgabDoorBuddyOut
import Derived.Test.YtiohpmcedfbcgabDoorIntsGrow
import Derived.Deep.RegionLaw
namespace Go.Proofs.YtiohpmcedfbcgabDoor
open Go.RowKit
set_option linter.unusedVariables false

theorem PoolAfter.refl {w : World} {p mb : Nat} {vs : Nat → Value} {q : Pl} (h : PoolAt w p mb vs q) : PoolAfter p mb vs w w q := ⟨vs, h, Turn.refl _ _, fun _ h => .inl h⟩
theorem PoolAfter.trans {w w1 w2 : World} {p mb : Nat} {vs vs1 : Nat → Value} {q : Pl} (t1 : Turn (Foot p mb vs) w w1) (g1 : ∀ j, Foot p mb vs1 j → Foot p mb vs j ∨ w.heap.size ≤ j) (h : PoolAfter p mb vs1 w1 w2 q) : PoolAfter p mb vs w w2 q := by
  obtain ⟨vs2, h2, t2, g2⟩ := h
  refine ⟨vs2, h2, t1.trans' t2 (fun k hk hf => ?_), fun j hj => ?_⟩
  · rcases g1 k hf with h | h
    · exact h
    · omega
  · rcases g2 j hj with h | h
    · exact g1 j h
    · exact .inr (Nat.le_trans t1.size h)

theorem len_le_nat : ∀ (n : Nat) (l : List Int), l.Nodup → (∀ x ∈ l, 0 ≤ x ∧ x < n) → l.length ≤ n
  | 0, l, _, h => by
    cases l with
    | nil => exact Nat.le_refl _
    | cons a l => have := h a (by simp); omega
  | n + 1, l, hn, h => by
    have h1 := len_le_nat n (l.erase n) (hn.erase _) (fun x hx => by
      have h2 := h x (List.mem_of_mem_erase hx)
      have h3 : x ≠ n := fun e => by subst e; exact (hn.not_mem_erase) hx
      omega)
    have h2 : l.length ≤ (l.erase (n : Int)).length + 1 := by rw [List.length_erase]; split <;> omega
    omega
theorem Good.len {n : Int} {fr : Fr} {tk : List (Int × Nat)} (h : Good n fr tk) (hn : n ≤ 256) (k : Nat) (hk : k < 7) : (fr k).length ≤ 256 := by
  refine len_le_nat 256 _ (h.nd k hk) (fun x hx => ?_)
  have := h.okF k x hk hx
  have hp := sz_pos k
  obtain ⟨_, a, _, b⟩ := this
  exact ⟨a, by omega⟩

/-- What a list of a pool is, when one more is laid beside it. -/
theorem PoolAt.lays {w : World} {p mb : Nat} {vs : Nat → Value} {q : Pl} (h : PoolAt w p mb vs q) (k : Nat) (hk : k < 7) (c : Int) :
    IntsAt (w.alloc (.cells #[.int .i64 c] 3)).drew (vs k) (q.fr k) ∧ (w.alloc (.cells #[.int .i64 c] 3)).drew.cell? ⟨w.heap.size, 0, none⟩ = some (.int .i64 c) ∧
    ∀ w1, Turn (fun j => (vs k).ownBlock = some j) (w.alloc (.cells #[.int .i64 c] 3)).drew w1 → w1.cell? ⟨p, 1 + k, none⟩ = some (vs k) ∧ w1.frozen? ⟨p, 1 + k, none⟩ = false := by
  have T0 : Turn (fun _ => False) w (w.alloc (.cells #[.int .i64 c] 3)).drew := ((Turn.refl _ _).alloc _).drew
  refine ⟨(h.fi k hk).turned T0 (fun _ _ => id), by simp, fun w1 t => ?_⟩
  have tt := (T0.mono (S' := fun j => (vs k).ownBlock = some j) fun _ _ h => h.elim).trans t
  exact ⟨(tt.cell (a := ⟨p, 1 + k, none⟩) h.lt (fun e => ((h.np k hk) p e).1 rfl)).trans (h.cf k hk), (tt.frozen (a := ⟨p, 1 + k, none⟩) h.lt (fun e => ((h.np k hk) p e).1 rfl)).trans (h.fz _)⟩

theorem PoolAt.appended {w w1 : World} {p mb : Nat} {vs : Nat → Value} {q : Pl} (h : PoolAt w p mb vs q) (k : Nat) (hk : k < 7) {c : Int} {g z : Nat} (t : Turn (fun j => (vs k).ownBlock = some j) (w.alloc (.cells #[.int .i64 c] 3)).drew w1)
    (hi : IntsAt w1 (.slice (some ⟨g, 0, none⟩) ((q.fr k).length + 1) z) (q.fr k ++ [c])) (ho : (vs k).ownBlock = some g ∨ (w.alloc (.cells #[.int .i64 c] 3)).drew.heap.size ≤ g) :
    PoolAfter p mb vs w (w1.setCell ⟨p, 1 + k, none⟩ (.slice (some ⟨g, 0, none⟩) ((q.fr k).length + 1) z)) ⟨q.n, addTo q.fr k c, q.tk⟩ := by
  have T0 : Turn (fun _ => False) w (w.alloc (.cells #[.int .i64 c] 3)).drew := ((Turn.refl _ _).alloc _).drew
  have hs := h.swap k hk ((T0.mono fun _ _ h => h.elim).trans t) _ _ hi (fun g' hg => by
    cases hg
    rcases ho with h | h
    · exact .inl h
    · right
      have : w.heap.size ≤ (w.alloc (.cells #[.int .i64 c] 3)).drew.heap.size := T0.size
      exact Nat.le_trans this h)
  exact ⟨_, hs.1, hs.2⟩

set_option maxHeartbeats 1000000 in
theorem give_missing {w : World} {p mb : Nat} {vs : Nat → Value} {q : Pl} (h : PoolAt w p mb vs q) (b o : Int) (hm : mget q.tk b = none) :
    Calls Tryd.prog 27 #[.pointer (some ⟨p, 0, none⟩), .int .i64 b, .int .i64 o] w fun e w' => e = .returned (.iface 40 (.int .i64 7)) ∧ w = w' := by
  have hc := h.cm
  have HM := hid h.mp
  have HG := hid hm
  clear h hm
  go_enter Tryd.func27, Tryd.ntmps27
  go_wp2_with (at_lookup; refine wpList_lookok_miss rfl _ _ 33 3 3 rfl Tryd.underlying33 Tryd.underlying3 keyI _ zeroI mb rfl HM.out b rfl HG.out ?_)
  go_ret
  exact ⟨rfl, rfl⟩

set_option maxHeartbeats 1000000 in
theorem give_other {w : World} {p mb : Nat} {vs : Nat → Value} {q : Pl} (h : PoolAt w p mb vs q) (b o : Int) (k : Nat) (hm : mget q.tk b = some k) (hk : (k : Int) ≠ o) :
    Calls Tryd.prog 27 #[.pointer (some ⟨p, 0, none⟩), .int .i64 b, .int .i64 o] w fun e w' => e = .returned (.iface 40 (.int .i64 7)) ∧ w = w' := by
  have hc := h.cm
  have HM := hid h.mp
  have HG := hid hm
  have hb : ((k : Int) != o) = true := bne_iff_ne.2 hk
  clear h hm hk
  go_enter Tryd.func27, Tryd.ntmps27
  go_wp2_with (at_lookup; refine wpList_lookok_hit rfl _ _ 33 3 3 rfl Tryd.underlying33 Tryd.underlying3 keyI _ zeroI mb rfl HM.out b rfl k HG.out ?_)
  go_ret
  exact ⟨rfl, rfl⟩

theorem PoolAt.mapped {w w1 : World} {p mb : Nat} {vs : Nat → Value} {q : Pl} (h : PoolAt w p mb vs q) (t : Turn (fun k => k = mb) w w1) (m : List (Int × Nat)) (hm : MapIs w1 mb (.int .i64) encI (fun n : Nat => Value.int .i64 (n : Int)) m) : PoolAt w1 p mb vs ⟨q.n, q.fr, m⟩ :=
  ⟨(t.cell (a := ⟨p, 0, none⟩) h.lt h.nm).trans h.c0,
   fun k hk => (t.cell (a := ⟨p, 1 + k, none⟩) h.lt h.nm).trans (h.cf k hk),
   fun k hk => (h.fi k hk).turned t (fun g hg => (h.np k hk g hg).2),
   (t.cell (a := ⟨p, 8, none⟩) h.lt h.nm).trans h.cm,
   hm,
   fun i => (t.frozen (a := ⟨p, i, none⟩) h.lt h.nm).trans (h.fz i),
   h.ap, h.nm, h.np⟩

theorem xor_all : ∀ c : Fin 256, ∀ j : Fin 6, (c.val : Int) % sz j.val = 0 → bits BinOp.xor IntKind.i64 (c.val : Int) (wrap64 (2 ^ j.val)) = bud j.val (c.val : Int) := by decide +kernel
theorem xor_bud {c : Int} {j : Nat} (h0 : 0 ≤ c) (h1 : c < 256) (hj : j < 6) (ha : c % sz j = 0) : bits BinOp.xor IntKind.i64 c (wrap64 (2 ^ j)) = bud j c := by
  obtain ⟨m, rfl⟩ := Int.eq_ofNat_of_zero_le h0
  exact xor_all ⟨m, by omega⟩ ⟨j, hj⟩ ha

theorem mdel_put {tk : List (Int × Nat)} (hn : MNodup tk) {b : Int} {k : Nat} (h : mget tk b = some k) : tk.Perm ((b, k) :: mdel tk b) := by
  have hm := mem_of_mget h
  induction tk with
  | nil => cases hm
  | cons t tk ih =>
    simp only [MNodup, List.map_cons, List.nodup_cons] at hn
    rcases List.mem_cons.1 hm with e | e
    · subst e
      have : mdel ((b, k) :: tk) b = tk := by
        have h0 : mdel tk b = tk := mdel_none (mget_none (fun p hp e2 => hn.1 (List.mem_map.2 ⟨p, hp, e2⟩)))
        unfold mdel at h0 ⊢
        rw [List.filter_cons_of_neg (by simp), h0]
      rw [this]
    · have hne : t.1 ≠ b := fun e2 => hn.1 (List.mem_map.2 ⟨(b, k), e, e2.symm⟩)
      have h1 : mget tk b = some k := mget_mem hn.2 e
      have : mdel (t :: tk) b = t :: mdel tk b := by
        unfold mdel
        rw [List.filter_cons_of_pos (by simpa using hne)]
      rw [this]
      exact ((ih hn.2 h1 e).cons t).trans (List.Perm.swap ..)

set_option maxHeartbeats 4000000 in
theorem give_ok {w : World} {p mb : Nat} {vs : Nat → Value} {q : Pl} (h : PoolAt w p mb vs q) (b : Int) (k : Nat) (hm : mget q.tk b = some k) (hg : Good q.n q.fr q.tk) (hn : q.n ≤ 256) :
    Calls Tryd.prog 27 #[.pointer (some ⟨p, 0, none⟩), .int .i64 b, .int .i64 k] w fun e w' => e = .returned .nilIface ∧ ∃ fr', Good q.n fr' (mdel q.tk b) ∧ PoolAfter p mb vs w w' ⟨q.n, fr', mdel q.tk b⟩ := by
  have hc := h.cm
  have HM := hid h.mp
  have HG := hid hm
  have hne : ((k : Int) != k) = false := by simp
  have H := hid h
  have HGood := hid hg
  clear h hm hg
  go_enter Tryd.func27, Tryd.ntmps27
  go_wp2_with (first | (at_lookup; refine wpList_lookok_hit rfl _ _ 33 3 3 rfl Tryd.underlying33 Tryd.underlying3 keyI _ zeroI mb rfl HM.out b rfl k HG.out ?_) | (at_delete; refine wpList_mapdel rfl _ _ 33 3 3 rfl Tryd.underlying33 Tryd.underlying3 keyI mb rfl HM.out b rfl ?_; intro w1 hm1 t1))
  go_frame
  have hp1 := hid (H.out.mapped t1 _ hm1)
  have ht1 := hid t1
  clear t1 hm1 HM
  have hk6 := (HGood.out.okT (b, k) (mem_of_mget HG.out)).1
  simp only at hk6
  go_loopw [1, 2, 9] (fun b' k' _ wr => ∃ (c : Int) (j : Nat) (fr : Fr), b' = .int .i64 c ∧ k' = .int .i64 j ∧ j < 7 ∧ Hid (Good q.n fr ((c, j) :: mdel q.tk b)) ∧ Hid (PoolAfter p mb vs w wr ⟨q.n, fr, mdel q.tk b⟩)) (fun _ k' _ _ => 7 - (intOf k').toNat)
  case atStart => exact ⟨b, k, q.fr, rfl, rfl, hk6, hid (HGood.out.perm (mdel_put H.out.mp.nodup HG.out)), hid ⟨vs, hp1.out, ht1.out.mono (fun j _ e => .inr (.inl e)), fun j hj => .inl hj⟩⟩
  case round =>
    clear hp1 ht1
    obtain ⟨c, j, fr, rfl, rfl, hj, hG, hP⟩ := hrel
    obtain ⟨_, hc0, hca, hcn⟩ := hG.out.okT (c, j) (List.mem_cons_self ..)
    simp only at hc0 hca hcn
    have hsp := sz_pos j
    have hc256 : c < 256 := by omega
    have HCA := hid hca
    clear hca hcn hsp
    obtain ⟨vs1, hp, t2, g2⟩ := hP.out
    have hcf := hp.cf j hj
    have hl := hG.out.len hn j hj
    have HP1 := hid hp
    have HT2 := hid t2
    have HG2 := hid g2
    clear hp t2 g2
    have HL := hid (HP1.out.lays j hj c)
    have hltp := HP1.out.lt
    have hj7 : (j : Int) < 7 := by omega
    have hfz := HP1.out.fz (1 + j)
    by_cases hlt : j < 6
    · have hlt' : (j : Int) < 6 := by omega
      have hx := xor_bud hc0 hc256 hlt HCA.out
      by_cases hm : bud j c ∈ fr j
      · have HM := hid hm
        clear hm
        go_wp2_with fail
        refine (contains_yes (HP1.out.fi j hj) (bud j c) (by show (fr j).length ≤ _; omega) HM.out).mono ?_
        rintro e w2 ⟨rfl, rfl⟩
        go_wp2_with fail
        refine (out_any HP1.out j hj (bud j c) (by show (fr j).length ≤ _; omega)).mono ?_
        rintro e w2 ⟨rfl, hp2⟩
        have HP2 := hid hp2
        clear hp2
        go_wp2_with fail
        go_roundw
        case rel => exact ⟨min c (bud j c), j + 1, _, congrArg (Value.int IntKind.i64) (by omega), by go_num, by omega, hid (hG.out.merge hlt HM.out), hid (PoolAfter.trans HT2.out HG2.out HP2.out)⟩
        case measure => simp [intOf]; omega
      · have HM := hid hm
        clear hm
        go_wp2_with fail
        refine (contains_no (HP1.out.fi j hj) (bud j c) (by show (fr j).length ≤ _; omega) HM.out).mono ?_
        rintro e w2 ⟨rfl, rfl⟩
        go_wp2_with fail
        go_region_law (refine step_append_int rfl _ _ rfl (vs1 j) (fr j) rfl HL.out.1 wr.heap.size 1 c rfl HL.out.2.1 (by omega) ?_; intro g3 z3 w3 hi3 t3 ho3; obtain ⟨hc3, hf3⟩ := HL.out.2.2 w3 t3; have HI3 := hid hi3; have HT3 := hid t3; have HO3 := hid ho3; clear hi3 t3 ho3)
        all_goals go_wp2_with fail
        all_goals go_ret
        all_goals (refine ⟨rfl, ?_⟩)
        all_goals exact ⟨_, hG.out.putBud (.inr HM.out), PoolAfter.trans HT2.out HG2.out (HP1.out.appended j hj (c := c) HT3.out HI3.out HO3.out)⟩
    · have hj6 : ¬ (j : Int) < 6 := by omega
      go_wp2_with fail
      go_region_law (refine step_append_int rfl _ _ rfl (vs1 j) (fr j) rfl HL.out.1 wr.heap.size 1 c rfl HL.out.2.1 (by omega) ?_; intro g3 z3 w3 hi3 t3 ho3; obtain ⟨hc3, hf3⟩ := HL.out.2.2 w3 t3; have HI3 := hid hi3; have HT3 := hid t3; have HO3 := hid ho3; clear hi3 t3 ho3)
      all_goals go_wp2_with fail
      all_goals go_ret
      all_goals (refine ⟨rfl, ?_⟩)
      all_goals exact ⟨_, hG.out.putBud (.inl (by omega)), PoolAfter.trans HT2.out HG2.out (HP1.out.appended j hj (c := c) HT3.out HI3.out HO3.out)⟩
end Go.Proofs.YtiohpmcedfbcgabDoor
