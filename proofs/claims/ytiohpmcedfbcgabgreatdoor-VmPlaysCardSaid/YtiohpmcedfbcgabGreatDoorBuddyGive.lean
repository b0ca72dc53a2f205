/- Several texts of ours in one, in build order (BuddyGive, BuddyAlloc, BuddyNew). Conditions: each theorem's own premises. -/
import Derived.Test.YtiohpmcedfbcgabGreatDoorBuddyOut
import Derived.Test.YtiohpmcedfbcgabGreatDoorIntsGrow
import Derived.Deep.RegionLaw
/- Package buddy: Give. Conditions: each theorem's own premises. -/
namespace Go.Proofs.YtiohpmcedfbcgabGreatDoor
open Go.RowKit
set_option linter.unusedVariables false

theorem PoolAfter.refl {w : World} {p mb : Nat} {vs : Nat → Value} {q : Pl} (h : PoolAt w p mb vs q) : PoolAfter p mb vs w w q := ⟨vs, h, Turn.refl _ _, fun _ h => .inl h⟩
theorem PoolAfter.trans {w w1 w2 : World} {p mb : Nat} {vs vs1 : Nat → Value} {q : Pl} (t1 : Turn (Foot p mb vs) w w1) (g1 : ∀ j, Foot p mb vs1 j → Foot p mb vs j ∨ w.heap.size ≤ j) (h : PoolAfter p mb vs1 w1 w2 q) : PoolAfter p mb vs w w2 q := by
  obtain ⟨vs2, h2, t2, g2⟩ := h
  refine ⟨vs2, h2, t1.trans' t2 (fun k hk hf => ?_), fun j hj => ?_⟩
  · rcases g1 k hf with h | h
    · exact h
    · omega
  · rcases g2 j hj with h | h
    · exact g1 j h
    · exact .inr (Nat.le_trans t1.size h)

theorem len_le_nat : ∀ (n : Nat) (l : List Int), l.Nodup → (∀ x ∈ l, 0 ≤ x ∧ x < n) → l.length ≤ n
  | 0, l, _, h => by
    cases l with
    | nil => exact Nat.le_refl _
    | cons a l => have := h a (by simp); omega
  | n + 1, l, hn, h => by
    have h1 := len_le_nat n (l.erase n) (hn.erase _) (fun x hx => by
      have h2 := h x (List.mem_of_mem_erase hx)
      have h3 : x ≠ n := fun e => by subst e; exact (hn.not_mem_erase) hx
      omega)
    have h2 : l.length ≤ (l.erase (n : Int)).length + 1 := by rw [List.length_erase]; split <;> omega
    omega
theorem Good.len {n : Int} {fr : Fr} {tk : List (Int × Nat)} (h : Good n fr tk) (hn : n ≤ 256) (k : Nat) (hk : k < 7) : (fr k).length ≤ 256 := by
  refine len_le_nat 256 _ (h.nd k hk) (fun x hx => ?_)
  have := h.okF k x hk hx
  have hp := sz_pos k
  obtain ⟨_, a, _, b⟩ := this
  exact ⟨a, by omega⟩

/-- What a list of a pool is, when one more is laid beside it. -/
theorem PoolAt.lays {w : World} {p mb : Nat} {vs : Nat → Value} {q : Pl} (h : PoolAt w p mb vs q) (k : Nat) (hk : k < 7) (c : Int) :
    IntsAt (w.alloc (.cells #[.int .i64 c] 3)).drew (vs k) (q.fr k) ∧ (w.alloc (.cells #[.int .i64 c] 3)).drew.cell? ⟨w.heap.size, 0, none⟩ = some (.int .i64 c) ∧
    ∀ w1, Turn (fun j => (vs k).ownBlock = some j) (w.alloc (.cells #[.int .i64 c] 3)).drew w1 → w1.cell? ⟨p, 1 + k, none⟩ = some (vs k) ∧ w1.frozen? ⟨p, 1 + k, none⟩ = false := by
  have T0 : Turn (fun _ => False) w (w.alloc (.cells #[.int .i64 c] 3)).drew := ((Turn.refl _ _).alloc _).drew
  refine ⟨(h.fi k hk).turned T0 (fun _ _ => id), by simp, fun w1 t => ?_⟩
  have tt := (T0.mono (S' := fun j => (vs k).ownBlock = some j) fun _ _ h => h.elim).trans t
  exact ⟨(tt.cell (a := ⟨p, 1 + k, none⟩) h.lt (fun e => ((h.np k hk) p e).1 rfl)).trans (h.cf k hk), (tt.frozen (a := ⟨p, 1 + k, none⟩) h.lt (fun e => ((h.np k hk) p e).1 rfl)).trans (h.fz _)⟩

theorem PoolAt.appended {w w1 : World} {p mb : Nat} {vs : Nat → Value} {q : Pl} (h : PoolAt w p mb vs q) (k : Nat) (hk : k < 7) {c : Int} {g z : Nat} (t : Turn (fun j => (vs k).ownBlock = some j) (w.alloc (.cells #[.int .i64 c] 3)).drew w1)
    (hi : IntsAt w1 (.slice (some ⟨g, 0, none⟩) ((q.fr k).length + 1) z) (q.fr k ++ [c])) (ho : (vs k).ownBlock = some g ∨ (w.alloc (.cells #[.int .i64 c] 3)).drew.heap.size ≤ g) :
    PoolAfter p mb vs w (w1.setCell ⟨p, 1 + k, none⟩ (.slice (some ⟨g, 0, none⟩) ((q.fr k).length + 1) z)) ⟨q.n, addTo q.fr k c, q.tk⟩ := by
  have T0 : Turn (fun _ => False) w (w.alloc (.cells #[.int .i64 c] 3)).drew := ((Turn.refl _ _).alloc _).drew
  have hs := h.swap k hk ((T0.mono fun _ _ h => h.elim).trans t) _ _ hi (fun g' hg => by
    cases hg
    rcases ho with h | h
    · exact .inl h
    · right
      have : w.heap.size ≤ (w.alloc (.cells #[.int .i64 c] 3)).drew.heap.size := T0.size
      exact Nat.le_trans this h)
  exact ⟨_, hs.1, hs.2⟩

set_option maxHeartbeats 1000000 in
theorem give_missing {w : World} {p mb : Nat} {vs : Nat → Value} {q : Pl} (h : PoolAt w p mb vs q) (b o : Int) (hm : mget q.tk b = none) :
    Calls Tryz.prog 134 #[.pointer (some ⟨p, 0, none⟩), .int .i64 b, .int .i64 o] w fun e w' => e = .returned (.iface 28 (.int .i64 7)) ∧ w = w' := by
  have hc := h.cm
  have HM := hid h.mp
  have HG := hid hm
  clear h hm
  go_enter Tryz.func134, Tryz.ntmps134
  go_wp2_with (at_lookup; refine wpList_lookok_miss rfl _ _ 92 3 3 rfl Tryz.underlying92 Tryz.underlying3 keyI _ zeroI mb rfl HM.out b rfl HG.out ?_)
  go_ret
  exact ⟨rfl, rfl⟩

set_option maxHeartbeats 1000000 in
theorem give_other {w : World} {p mb : Nat} {vs : Nat → Value} {q : Pl} (h : PoolAt w p mb vs q) (b o : Int) (k : Nat) (hm : mget q.tk b = some k) (hk : (k : Int) ≠ o) :
    Calls Tryz.prog 134 #[.pointer (some ⟨p, 0, none⟩), .int .i64 b, .int .i64 o] w fun e w' => e = .returned (.iface 28 (.int .i64 7)) ∧ w = w' := by
  have hc := h.cm
  have HM := hid h.mp
  have HG := hid hm
  have hb : ((k : Int) != o) = true := bne_iff_ne.2 hk
  clear h hm hk
  go_enter Tryz.func134, Tryz.ntmps134
  go_wp2_with (at_lookup; refine wpList_lookok_hit rfl _ _ 92 3 3 rfl Tryz.underlying92 Tryz.underlying3 keyI _ zeroI mb rfl HM.out b rfl k HG.out ?_)
  go_ret
  exact ⟨rfl, rfl⟩

theorem PoolAt.mapped {w w1 : World} {p mb : Nat} {vs : Nat → Value} {q : Pl} (h : PoolAt w p mb vs q) (t : Turn (fun k => k = mb) w w1) (m : List (Int × Nat)) (hm : MapIs w1 mb (.int .i64) encI (fun n : Nat => Value.int .i64 (n : Int)) m) : PoolAt w1 p mb vs ⟨q.n, q.fr, m⟩ :=
  ⟨(t.cell (a := ⟨p, 0, none⟩) h.lt h.nm).trans h.c0,
   fun k hk => (t.cell (a := ⟨p, 1 + k, none⟩) h.lt h.nm).trans (h.cf k hk),
   fun k hk => (h.fi k hk).turned t (fun g hg => (h.np k hk g hg).2),
   (t.cell (a := ⟨p, 8, none⟩) h.lt h.nm).trans h.cm,
   hm,
   fun i => (t.frozen (a := ⟨p, i, none⟩) h.lt h.nm).trans (h.fz i),
   h.ap, h.nm, h.np⟩

theorem xor_all : ∀ c : Fin 256, ∀ j : Fin 6, (c.val : Int) % sz j.val = 0 → bits BinOp.xor IntKind.i64 (c.val : Int) (wrap64 (2 ^ j.val)) = bud j.val (c.val : Int) := by decide +kernel
theorem xor_bud {c : Int} {j : Nat} (h0 : 0 ≤ c) (h1 : c < 256) (hj : j < 6) (ha : c % sz j = 0) : bits BinOp.xor IntKind.i64 c (wrap64 (2 ^ j)) = bud j c := by
  obtain ⟨m, rfl⟩ := Int.eq_ofNat_of_zero_le h0
  exact xor_all ⟨m, by omega⟩ ⟨j, hj⟩ ha

theorem mdel_put {tk : List (Int × Nat)} (hn : MNodup tk) {b : Int} {k : Nat} (h : mget tk b = some k) : tk.Perm ((b, k) :: mdel tk b) := by
  have hm := mem_of_mget h
  induction tk with
  | nil => cases hm
  | cons t tk ih =>
    simp only [MNodup, List.map_cons, List.nodup_cons] at hn
    rcases List.mem_cons.1 hm with e | e
    · subst e
      have : mdel ((b, k) :: tk) b = tk := by
        have h0 : mdel tk b = tk := mdel_none (mget_none (fun p hp e2 => hn.1 (List.mem_map.2 ⟨p, hp, e2⟩)))
        unfold mdel at h0 ⊢
        rw [List.filter_cons_of_neg (by simp), h0]
      rw [this]
    · have hne : t.1 ≠ b := fun e2 => hn.1 (List.mem_map.2 ⟨(b, k), e, e2.symm⟩)
      have h1 : mget tk b = some k := mget_mem hn.2 e
      have : mdel (t :: tk) b = t :: mdel tk b := by
        unfold mdel
        rw [List.filter_cons_of_pos (by simpa using hne)]
      rw [this]
      exact ((ih hn.2 h1 e).cons t).trans (List.Perm.swap ..)

set_option maxHeartbeats 4000000 in
theorem give_ok {w : World} {p mb : Nat} {vs : Nat → Value} {q : Pl} (h : PoolAt w p mb vs q) (b : Int) (k : Nat) (hm : mget q.tk b = some k) (hg : Good q.n q.fr q.tk) (hn : q.n ≤ 256) :
    Calls Tryz.prog 134 #[.pointer (some ⟨p, 0, none⟩), .int .i64 b, .int .i64 k] w fun e w' => e = .returned .nilIface ∧ ∃ fr', Good q.n fr' (mdel q.tk b) ∧ PoolAfter p mb vs w w' ⟨q.n, fr', mdel q.tk b⟩ := by
  have hc := h.cm
  have HM := hid h.mp
  have HG := hid hm
  have hne : ((k : Int) != k) = false := by simp
  have H := hid h
  have HGood := hid hg
  clear h hm hg
  go_enter Tryz.func134, Tryz.ntmps134
  go_wp2_with (first | (at_lookup; refine wpList_lookok_hit rfl _ _ 92 3 3 rfl Tryz.underlying92 Tryz.underlying3 keyI _ zeroI mb rfl HM.out b rfl k HG.out ?_) | (at_delete; refine wpList_mapdel rfl _ _ 92 3 3 rfl Tryz.underlying92 Tryz.underlying3 keyI mb rfl HM.out b rfl ?_; intro w1 hm1 t1))
  go_frame
  have hp1 := hid (H.out.mapped t1 _ hm1)
  have ht1 := hid t1
  clear t1 hm1 HM
  have hk6 := (HGood.out.okT (b, k) (mem_of_mget HG.out)).1
  simp only at hk6
  go_loopw [1, 2, 9] (fun b' k' _ wr => ∃ (c : Int) (j : Nat) (fr : Fr), b' = .int .i64 c ∧ k' = .int .i64 j ∧ j < 7 ∧ Hid (Good q.n fr ((c, j) :: mdel q.tk b)) ∧ Hid (PoolAfter p mb vs w wr ⟨q.n, fr, mdel q.tk b⟩)) (fun _ k' _ _ => 7 - (intOf k').toNat)
  case atStart => exact ⟨b, k, q.fr, rfl, rfl, hk6, hid (HGood.out.perm (mdel_put H.out.mp.nodup HG.out)), hid ⟨vs, hp1.out, ht1.out.mono (fun j _ e => .inr (.inl e)), fun j hj => .inl hj⟩⟩
  case round =>
    clear hp1 ht1
    obtain ⟨c, j, fr, rfl, rfl, hj, hG, hP⟩ := hrel
    obtain ⟨_, hc0, hca, hcn⟩ := hG.out.okT (c, j) (List.mem_cons_self ..)
    simp only at hc0 hca hcn
    have hsp := sz_pos j
    have hc256 : c < 256 := by omega
    have HCA := hid hca
    clear hca hcn hsp
    obtain ⟨vs1, hp, t2, g2⟩ := hP.out
    have hcf := hp.cf j hj
    have hl := hG.out.len hn j hj
    have HP1 := hid hp
    have HT2 := hid t2
    have HG2 := hid g2
    clear hp t2 g2
    have HL := hid (HP1.out.lays j hj c)
    have hltp := HP1.out.lt
    have hj7 : (j : Int) < 7 := by omega
    have hfz := HP1.out.fz (1 + j)
    by_cases hlt : j < 6
    · have hlt' : (j : Int) < 6 := by omega
      have hx := xor_bud hc0 hc256 hlt HCA.out
      by_cases hm : bud j c ∈ fr j
      · have HM := hid hm
        clear hm
        go_wp2_with fail
        refine (contains_yes (HP1.out.fi j hj) (bud j c) (by show (fr j).length ≤ _; omega) HM.out).mono ?_
        rintro e w2 ⟨rfl, rfl⟩
        go_wp2_with fail
        refine (out_any HP1.out j hj (bud j c) (by show (fr j).length ≤ _; omega)).mono ?_
        rintro e w2 ⟨rfl, hp2⟩
        have HP2 := hid hp2
        clear hp2
        go_wp2_with fail
        go_roundw
        case rel => exact ⟨min c (bud j c), j + 1, _, congrArg (Value.int IntKind.i64) (by omega), by go_num, by omega, hid (hG.out.merge hlt HM.out), hid (PoolAfter.trans HT2.out HG2.out HP2.out)⟩
        case measure => simp [intOf]; omega
      · have HM := hid hm
        clear hm
        go_wp2_with fail
        refine (contains_no (HP1.out.fi j hj) (bud j c) (by show (fr j).length ≤ _; omega) HM.out).mono ?_
        rintro e w2 ⟨rfl, rfl⟩
        go_wp2_with fail
        go_region_law (refine step_append_int rfl _ _ rfl (vs1 j) (fr j) rfl HL.out.1 wr.heap.size 1 c rfl HL.out.2.1 (by omega) ?_; intro g3 z3 w3 hi3 t3 ho3; obtain ⟨hc3, hf3⟩ := HL.out.2.2 w3 t3; have HI3 := hid hi3; have HT3 := hid t3; have HO3 := hid ho3; clear hi3 t3 ho3)
        all_goals go_wp2_with fail
        all_goals go_ret
        all_goals (refine ⟨rfl, ?_⟩)
        all_goals exact ⟨_, hG.out.putBud (.inr HM.out), PoolAfter.trans HT2.out HG2.out (HP1.out.appended j hj (c := c) HT3.out HI3.out HO3.out)⟩
    · have hj6 : ¬ (j : Int) < 6 := by omega
      go_wp2_with fail
      go_region_law (refine step_append_int rfl _ _ rfl (vs1 j) (fr j) rfl HL.out.1 wr.heap.size 1 c rfl HL.out.2.1 (by omega) ?_; intro g3 z3 w3 hi3 t3 ho3; obtain ⟨hc3, hf3⟩ := HL.out.2.2 w3 t3; have HI3 := hid hi3; have HT3 := hid t3; have HO3 := hid ho3; clear hi3 t3 ho3)
      all_goals go_wp2_with fail
      all_goals go_ret
      all_goals (refine ⟨rfl, ?_⟩)
      all_goals exact ⟨_, hG.out.putBud (.inl (by omega)), PoolAfter.trans HT2.out HG2.out (HP1.out.appended j hj (c := c) HT3.out HI3.out HO3.out)⟩
end Go.Proofs.YtiohpmcedfbcgabGreatDoor
/- Package buddy: Alloc keeps a pool good; what it takes; when it is refused. Conditions: each theorem's own premises. -/
namespace Go.Proofs.YtiohpmcedfbcgabGreatDoor
open Go.RowKit
set_option linter.unusedVariables false

theorem leastOf_mem (x : Int) (xs : List Int) : leastOf x xs ∈ x :: xs ∧ ∀ y ∈ x :: xs, leastOf x xs ≤ y := by
  induction xs generalizing x with
  | nil => exact ⟨by simp [leastOf], by simp [leastOf]⟩
  | cons y xs ih =>
    have e : leastOf x (y :: xs) = leastOf (if y < x then y else x) xs := rfl
    rw [e]
    obtain ⟨h1, h2⟩ := ih (if y < x then y else x)
    have h3 := h2 _ (List.mem_cons_self ..)
    have h4 : (if y < x then y else x) ≤ x ∧ (if y < x then y else x) ≤ y := by split <;> constructor <;> omega
    refine ⟨?_, fun z hz => ?_⟩
    · rcases List.mem_cons.1 h1 with h | h
      · rw [h]; split <;> simp
      · simp [h]
    · rcases List.mem_cons.1 hz with rfl | hz
      · exact Int.le_trans h3 h4.1
      · rcases List.mem_cons.1 hz with rfl | hz
        · exact Int.le_trans h3 h4.2
        · exact h2 z (List.mem_cons_of_mem _ hz)

theorem wrap_sz : ∀ k : Fin 7, IntKind.i64.wrap (2 ^ k.val) = sz k.val := by decide +kernel

theorem mget_fresh {n : Int} {fr : Fr} {tk : List (Int × Nat)} {b : Int} {k : Nat} (h : Good n fr ((b, k) :: tk)) : mget tk b = none := mget_none (fun t ht e => by
  have := (List.pairwise_cons.1 h.tt).1 t ht
  have h1 := sz_pos k
  have h2 := sz_pos t.2
  simp only [Ov, not_and] at this
  omega)
theorem mput_perm {tk : List (Int × Nat)} {b : Int} {k : Nat} (h : mget tk b = none) : ((b, k) :: tk).Perm (mput tk b k) := by
  unfold mput
  rw [h]
  exact (List.perm_append_singleton _ _).symm

theorem alloc_arg {w : World} (p : Nat) (o : Int) (h : o < 0 ∨ 6 < o) :
    Calls Tryz.prog 67 #[.pointer (some ⟨p, 0, none⟩), .int .i64 o] w fun e w' => e = .returned (.tuple #[.int .i64 0, .iface 28 (.int .i64 1)]) ∧ w = w' := by
  rcases h with h | h
  · go_enter Tryz.func67, Tryz.ntmps67
    go_wp2_with fail
    go_ret2
    exact ⟨rfl, rfl⟩
  · have h' : ¬ o < 0 := by omega
    go_enter Tryz.func67, Tryz.ntmps67
    go_wp2_with fail
    go_ret2
    exact ⟨rfl, rfl⟩

def AllocFull (q : Pl) (o : Nat) (w : World) (e : Ending) (w' : World) : Prop :=
  e = .returned (.tuple #[.int .i64 0, .iface 28 (.int .i64 12)]) ∧ w = w' ∧ ∀ k, o ≤ k → k < 7 → q.fr k = []
def AllocGot (p mb : Nat) (vs : Nat → Value) (q : Pl) (o : Nat) (w : World) (e : Ending) (w' : World) : Prop :=
  ∃ (k : Nat) (base : Int) (fr' : Fr), o ≤ k ∧ k < 7 ∧ (∀ j, o ≤ j → j < k → q.fr j = []) ∧ base ∈ q.fr k ∧ (∀ c ∈ q.fr k, base ≤ c) ∧ e = .returned (.tuple #[.int .i64 base, .nilIface]) ∧
    mget q.tk base = none ∧ Good q.n fr' (mput q.tk base o) ∧ PoolAfter p mb vs w w' ⟨q.n, fr', mput q.tk base o⟩
def AllocRes (p mb : Nat) (vs : Nat → Value) (q : Pl) (o : Nat) (w : World) (e : Ending) (w' : World) : Prop := AllocFull q o w e w' ∨ AllocGot p mb vs q o w e w'

set_option maxHeartbeats 4000000 in
theorem alloc_any {w : World} {p mb : Nat} {vs : Nat → Value} {q : Pl} (h : PoolAt w p mb vs q) (o : Nat) (ho : o ≤ 6) (hg : Good q.n q.fr q.tk) (hn : q.n ≤ 256) :
    Calls Tryz.prog 67 #[.pointer (some ⟨p, 0, none⟩), .int .i64 o] w (AllocRes p mb vs q o w) := by
  have H := hid h
  have HG := hid hg
  have ho' : (o : Int) ≤ 6 := by omega
  have hltp := h.lt
  clear h hg
  go_enter Tryz.func67, Tryz.ntmps67
  go_wp2_with fail
  go_loop [6] (fun k' => ∃ k : Nat, o ≤ k ∧ k ≤ 7 ∧ k' = .int .i64 k ∧ Hid (∀ j, o ≤ j → j < k → q.fr j = [])) (fun k' => 7 - (intOf k').toNat)
  case atStart => exact ⟨o, Nat.le_refl _, by omega, rfl, hid (fun j h1 h2 => by omega)⟩
  case round =>
    obtain ⟨k, hk1, hk2, rfl, hE⟩ := hrel
    by_cases hk7 : k < 7
    · have hk7' : (k : Int) < 7 := by omega
      have hk6' : (k : Int) ≤ 6 := by omega
      have hcf := H.out.cf k hk7
      obtain ⟨a1, z1, e1⟩ := (H.out.fi k hk7).slice
      have hl := HG.out.len hn k hk7
      rw [e1] at hcf
      have HE1 := hid e1
      clear e1
      by_cases he : q.fr k = []
      · have hle : (q.fr k).length = 0 := by rw [he]; rfl
        have HEm := hid he
        clear he
        rw [hle] at hcf
        clear hle
        go_wp2_with fail
        go_round
        case rel => exact ⟨k + 1, by omega, by omega, by go_num, hid (fun j h1 h2 => by
          by_cases e : j = k
          · rw [e]; exact HEm.out
          · exact hE.out j h1 (by omega))⟩
        case measure => simp [intOf]; omega
      · obtain ⟨x, xs, hx⟩ : ∃ x xs, q.fr k = x :: xs := by
          cases hf : q.fr k with
          | nil => exact absurd hf he
          | cons x xs => exact ⟨x, xs, rfl⟩
        have hpos : ((q.fr k).length == 0) = false := by rw [hx]; rfl
        have hpos' : 0 < (q.fr k).length := by rw [hx]; simp
        have hpi : (((q.fr k).length : Int) == 0) = false := beq_eq_false_iff_ne.2 (by omega)
        clear hpos
        obtain ⟨hbm, hbl⟩ := leastOf_mem x xs
        have HX := hid hx
        rw [← hx] at hbm hbl
        obtain ⟨_, hb0, hba, hbn⟩ := HG.out.okF k _ hk7 hbm
        have hsp := sz_pos k
        have HB := hid (And.intro hbm hbl)
        have HBA := hid (And.intro hba hbn)
        have hb1 : leastOf x xs < 256 := by omega
        clear hx hbm hbl hba hbn hsp
        have hmin := min_ints (xs := xs) (by rw [← HX.out]; exact H.out.fi k hk7) (by have := congrArg List.length HX.out; simp at this; omega)
        rw [HE1.out] at hmin
        have HMin := hid hmin
        clear hmin
        generalize leastOf x xs = base at *
        go_wp2_with fail
        refine HMin.out.mono ?_
        rintro e w1 ⟨rfl, rfl⟩
        go_wp2_with fail
        refine (out_any H.out k hk7 base (by omega)).mono ?_
        rintro e w1 ⟨rfl, hp1⟩
        have HP1 := hid hp1
        clear hp1 hcf
        go_wp2_with fail
        go_loopw [6] (fun k' wr => ∃ (j : Nat) (fr : Fr), k' = .int .i64 j ∧ o ≤ j ∧ j < 7 ∧ Hid (Good q.n fr ((base, j) :: q.tk)) ∧ Hid (PoolAfter p mb vs w wr ⟨q.n, fr, q.tk⟩)) (fun k' _ => (intOf k').toNat)
        case atStart => exact ⟨k, _, rfl, hk1, hk7, hid (HG.out.take hk7 HB.out.1), HP1⟩
        case round =>
          clear HP1
          obtain ⟨j, fr, rfl, hj1, hj2, hGj, hPj⟩ := hrel
          by_cases hjo : o < j
          · obtain ⟨i, rfl⟩ : ∃ i, j = i + 1 := ⟨j - 1, by omega⟩
            obtain ⟨vs1, hp, t2, g2⟩ := hPj.out
            have hx := wrap_sz ⟨i, by omega⟩
            simp only at hx
            have hs1 := sz_pos i
            have hs2 := sz_le (k := i) (by omega)
            have hi7 : (i : Int) < 7 := by omega
            have hx3 : IntKind.i64.wrap (base + sz i) = base + sz i := IntWalk.i64_in _ (by omega)
            have hwi : IntKind.i64.wrap (i : Int) = i := IntWalk.i64_in _ (by omega)
            have hcf := hp.cf i (by omega)
            have hl1 := hGj.out.len hn i (by omega)
            have HP1 := hid hp
            have HT2 := hid t2
            have HG2 := hid g2
            have HL := hid (HP1.out.lays i (by omega) (base + sz i))
            have hltp := HP1.out.lt
            have hfz := HP1.out.fz (1 + i)
            clear hp t2 g2
            go_wp2_with fail
            go_region_law (refine step_append_int rfl _ _ rfl (vs1 i) (fr i) rfl HL.out.1 wr.heap.size 1 (base + sz i) rfl HL.out.2.1 (by omega) ?_; intro g3 z3 w3 hi3 t3 ho3; obtain ⟨hc3, hf3⟩ := HL.out.2.2 w3 t3; have HI3 := hid hi3; have HT3 := hid t3; have HO3 := hid ho3; clear hi3 t3 ho3)
            all_goals
              go_wp2_with fail
              go_roundw
              case rel => exact ⟨i, _, rfl, by omega, by omega, hid hGj.out.split, hid (PoolAfter.trans HT2.out HG2.out (HP1.out.appended i (by omega) (c := base + sz i) HT3.out HI3.out HO3.out))⟩
              case measure => first | (simp [intOf]; done) | (simp [intOf]; omega)
          · obtain rfl : j = o := by omega
            obtain ⟨vs1, hp, t2, g2⟩ := hPj.out
            have hcm := hp.cm
            have HP1 := hid hp
            have HT2 := hid t2
            have HG2 := hid g2
            clear hp t2 g2
            have hno := hid (mget_fresh hGj.out)
            go_wp2_with (at_mapUpdate; refine wpList_mapput rfl _ _ _ 92 3 3 rfl Tryz.underlying92 Tryz.underlying3 keyI mb rfl HP1.out.mp base rfl j rfl ?_; intro w3 hm3 t3; have HM3 := hid hm3; have HT3 := hid t3; clear hm3 t3)
            go_ret2
            refine .inr ⟨k, base, fr, hk1, hk7, hE.out, HB.out.1, HB.out.2, rfl, hno.out, hGj.out.perm (mput_perm hno.out), ?_⟩
            exact PoolAfter.trans HT2.out HG2.out ⟨vs1, HP1.out.mapped HT3.out _ HM3.out, HT3.out.mono (fun _ _ e => .inr (.inl e)), fun _ h => .inl h⟩
    · have hk : k = 7 := by omega
      subst hk
      go_wp2_with fail
      go_ret2
      exact .inl ⟨rfl, rfl, fun k h1 h2 => hE.out k h1 h2⟩
end Go.Proofs.YtiohpmcedfbcgabGreatDoor
/- Package buddy: New makes a good pool. Conditions: each theorem's own premises. -/
namespace Go.Proofs.YtiohpmcedfbcgabGreatDoor
open Go.RowKit
set_option linter.unusedVariables false

/-- What has been laid up to B. -/
structure Part (n B : Int) (fr : Fr) : Prop where
  okF : ∀ k b, k < 7 → b ∈ fr k → Ok n k b ∧ b + sz k ≤ B
  nd : ∀ k, k < 7 → (fr k).Nodup
  ff : ∀ k b j c, k < 7 → j < 7 → b ∈ fr k → c ∈ fr j → Ov k b j c → k = j ∧ b = c
  cov : ∀ f, 0 ≤ f → f < B → ∃ k b, k < 7 ∧ b ∈ fr k ∧ b ≤ f ∧ f < b + sz k
  top : ∀ k b, k < 6 → b ∈ fr k → b % sz (k + 1) = 0 → n < b + sz (k + 1)

theorem Part.start (n : Int) : Part n 0 (fun _ => []) := ⟨fun _ _ _ h => by simp at h, fun _ _ => List.nodup_nil, fun _ _ _ _ _ _ h => by simp at h, fun _ _ _ => by omega, fun _ _ _ h => by simp at h⟩
theorem Part.step {n B : Int} {fr : Fr} (h : Part n B fr) {k : Nat} (hk : k < 7) (hB : 0 ≤ B) (ha : B % sz k = 0) (hn : B + sz k ≤ n) (ht : k = 6 ∨ ¬ (B % sz (k + 1) = 0 ∧ B + sz (k + 1) ≤ n)) : Part n (B + sz k) (addTo fr k B) where
  okF j c hj hc := by
    have hp := sz_pos k
    rcases mem_add.1 hc with c1 | ⟨rfl, rfl⟩
    · exact ⟨(h.okF j c hj c1).1, by have := (h.okF j c hj c1).2; omega⟩
    · exact ⟨⟨hj, hB, ha, hn⟩, Int.le_refl _⟩
  nd j hj := by
    unfold addTo
    split
    · rename_i e
      subst e
      rw [List.nodup_append]
      refine ⟨h.nd j hj, by simp, ?_⟩
      intro x hx y hy e
      simp only [List.mem_singleton] at hy
      subst hy
      subst e
      have := (h.okF j x hj hx).2
      have := sz_pos j
      omega
    · exact h.nd j hj
  ff i c j d hi hj hc hd ho := by
    have hpi := sz_pos i
    have hpj := sz_pos j
    rcases mem_add.1 hc with c1 | ⟨rfl, rfl⟩
    · rcases mem_add.1 hd with d1 | ⟨rfl, rfl⟩
      · exact h.ff i c j d hi hj c1 d1 ho
      · have := (h.okF i c hi c1).2; have := ho.2; omega
    · rcases mem_add.1 hd with d1 | ⟨rfl, rfl⟩
      · have := (h.okF j d hj d1).2; have := ho.1; omega
      · exact ⟨rfl, rfl⟩
  cov f h0 h1 := by
    by_cases hf : f < B
    · obtain ⟨j, c, hj, hc, r⟩ := h.cov f h0 hf
      exact ⟨j, c, hj, mem_add.2 (.inl hc), r⟩
    · exact ⟨k, B, hk, mem_add.2 (.inr ⟨rfl, rfl⟩), by omega, h1⟩
  top j c hj hc he := by
    rcases mem_add.1 hc with c1 | ⟨rfl, rfl⟩
    · exact h.top j c hj c1 he
    · rcases ht with ht | ht
      · omega
      · have := sz_succ j; simp only [not_and] at ht; have := ht he; omega
theorem Part.len {n B : Int} {fr : Fr} (h : Part n B fr) (hn : n ≤ 256) (k : Nat) (hk : k < 7) : (fr k).length ≤ 256 := by
  refine len_le_nat 256 _ (h.nd k hk) (fun x hx => ?_)
  have := (h.okF k x hk hx).1
  have hp := sz_pos k
  obtain ⟨_, a, _, b⟩ := this
  exact ⟨a, by omega⟩
theorem wrap_2sz : ∀ k : Fin 7, wrap64 (2 * 2 ^ k.val) = sz (k.val + 1) := by decide +kernel
theorem wrap_sz64 : ∀ k : Fin 7, wrap64 (2 ^ k.val) = sz k.val := by decide +kernel
theorem Part.good {n : Int} {fr : Fr} (h : Part n n fr) : Good n fr [] where
  okF k b hk hb := (h.okF k b hk hb).1
  okT t ht := by simp at ht
  nd := h.nd
  ff := h.ff
  tt := List.Pairwise.nil
  ft _ _ _ _ t ht := by simp at ht
  cov f h0 h1 := .inl (h.cov f h0 h1)
  nb k b hk ha hb hm := by
    have h1 := h.top k b hk hb ha
    have h2 := (h.okF k _ (by omega) hm).2
    have := sz_succ k
    omega

theorem new_range (n : Int) (w : World) (h : n < 1 ∨ 256 < n) :
    Calls Tryz.prog 56 #[.int .i64 n] w fun e w' => e = .returned (.tuple #[.pointer none, .iface 28 (.int .i64 2)]) ∧ w = w' := by
  rcases h with h | h
  · go_enter Tryz.func56, Tryz.ntmps56
    go_wp2_with fail
    go_ret2
    exact ⟨rfl, rfl⟩
  · have h' : ¬ n < 1 := by omega
    go_enter Tryz.func56, Tryz.ntmps56
    go_wp2_with fail
    go_ret2
    exact ⟨rfl, rfl⟩

def NewPool (n : Int) (w : World) (e : Ending) (w' : World) : Prop :=
  ∃ p mb vs fr, e = .returned (.tuple #[.pointer (some ⟨p, 0, none⟩), .nilIface]) ∧ PoolAt w' p mb vs ⟨n, fr, []⟩ ∧ Good n fr [] ∧ Turn (fun _ => False) w w' ∧ ∀ k, Foot p mb vs k → w.heap.size ≤ k

theorem PoolAt.fresh (n : Int) (w : World) : PoolAt ((w.alloc (.map #[] 0)).alloc (.cells #[.int .i64 n, .slice none 0 0, .slice none 0 0, .slice none 0 0, .slice none 0 0, .slice none 0 0, .slice none 0 0, .slice none 0 0, .map (some w.heap.size)] 263)) (w.heap.size + 1) w.heap.size (fun _ => .slice none 0 0) ⟨n, fun _ => [], []⟩ := by
  have hz : (w.alloc (.map #[] 0)).heap.size = w.heap.size + 1 := World.size_alloc _ _
  have hB : ∀ j, ((w.alloc (.map #[] 0)).alloc (.cells #[.int .i64 n, .slice none 0 0, .slice none 0 0, .slice none 0 0, .slice none 0 0, .slice none 0 0, .slice none 0 0, .slice none 0 0, .map (some w.heap.size)] 263)).cell? ⟨w.heap.size + 1, j, none⟩ = (#[.int .i64 n, .slice none 0 0, .slice none 0 0, .slice none 0 0, .slice none 0 0, .slice none 0 0, .slice none 0 0, .slice none 0 0, .map (some w.heap.size)] : Array Value)[j]? := fun j => by rw [← hz]; exact World.cell?_alloc_new _ _ _ _
  refine ⟨hB 0, fun k hk => ?_, fun k hk => World.ownsRow_nil _ _ _ _, hB 8, ?_, fun i => ?_, fun _ _ _ _ _ g h => (by cases h), (by omega), fun _ _ g h => (by cases h)⟩
  · rw [hB]
    match k, hk with
    | 0, _ => rfl
    | 1, _ => rfl
    | 2, _ => rfl
    | 3, _ => rfl
    | 4, _ => rfl
    | 5, _ => rfl
    | 6, _ => rfl
  · exact (MapIs.made w).turned ((Turn.refl (fun _ => False) _).alloc _) id
  · rw [← hz]; simp

set_option maxHeartbeats 4000000 in
theorem new_any (n : Int) (w : World) (h1 : 1 ≤ n) (h2 : n ≤ 256) : Calls Tryz.prog 56 #[.int .i64 n] w (NewPool n w) := by
  have hmm := @run_makeMap Tryz.prog
  go_enter Tryz.func56, Tryz.ntmps56
  go_wp2_with fail
  have HP0 := hid (PoolAt.fresh n w)
  have HT0 : Hid (Turn (fun _ => False) w ((w.alloc (.map #[] 0)).alloc (.cells #[.int .i64 n, .slice none 0 0, .slice none 0 0, .slice none 0 0, .slice none 0 0, .slice none 0 0, .slice none 0 0, .slice none 0 0, .map (some w.heap.size)] 263))) := hid (((Turn.refl _ _).alloc _).alloc _)
  generalize (w.alloc (.map #[] 0)).alloc (.cells #[.int .i64 n, .slice none 0 0, .slice none 0 0, .slice none 0 0, .slice none 0 0, .slice none 0 0, .slice none 0 0, .slice none 0 0, .map (some w.heap.size)] 263) = W0 at *
  obtain ⟨p, hp⟩ : ∃ p, w.heap.size + 1 = p := ⟨_, rfl⟩
  rw [hp] at HP0
  rw [hp]
  obtain ⟨mb, hmb⟩ : ∃ mb, w.heap.size = mb := ⟨_, rfl⟩
  rw [hmb] at HP0
  rw [hmb]
  have HPM := hid (And.intro hp hmb)
  clear hp hmb
  go_loopw [5, 6] (fun b' _ wr => ∃ (B : Int) (fr : Fr), b' = .int .i64 B ∧ 0 ≤ B ∧ B ≤ n ∧ Hid (Part n B fr) ∧ Hid True ∧ Hid (PoolAfter p mb (fun _ => .slice none 0 0) W0 wr ⟨n, fr, []⟩)) (fun b' _ _ => (n - intOf b').toNat)
  case atStart => exact ⟨0, _, rfl, Int.le_refl _, by omega, hid (Part.start n), hid trivial, hid (PoolAfter.refl HP0.out)⟩
  case round =>
    obtain ⟨B, fr, rfl, hB0, hBn, hPart, _, hP⟩ := hrel
    by_cases hlt : B < n
    · go_wp2_with fail
      obtain ⟨wo, rfl⟩ : ∃ wo : World, wo = wr := ⟨_, rfl⟩
      go_loop [6] (fun k' => ∃ k : Nat, k' = .int .i64 k ∧ k ≤ 6 ∧ Hid (B % sz k = 0 ∧ B + sz k ≤ n)) (fun k' => (7 - intOf k').toNat)
      case atStart => exact ⟨0, rfl, by omega, hid ⟨by simp [sz, Int.emod_one], by simp [sz]; omega⟩⟩
      case round =>
        obtain ⟨k, rfl, hk6, hk⟩ := hrel
        have hkn : B + sz k ≤ n := hk.out.2
        have hsp := sz_pos k
        have hsp1 := sz_pos (k + 1)
        have hsl1 : sz k ≤ 64 := sz_le hk6
        have hsu := hid (sz_succ k)
        have hx := wrap_2sz ⟨k, by omega⟩
        have hx1 := wrap_sz64 ⟨k, by omega⟩
        simp only at hx hx1
        have hS : sz (k + 1) ≤ 128 := by have := hsu.out; omega
        obtain ⟨vs1, hpx, tx, gx⟩ := hP.out
        have hl := hPart.out.len (by omega) k (by omega)
        have HPx := hid hpx
        have HTx := hid tx
        have HGx := hid gx
        clear hpx tx gx
        by_cases hc : k < 6 ∧ B % sz (k + 1) = 0 ∧ B + sz (k + 1) ≤ n
        · obtain ⟨hk5, hm, hle⟩ := hc
          have hk5' : (k : Int) < 6 := by omega
          have hmb : (B % sz (k + 1) == 0) = true := beq_iff_eq.2 hm
          have HM := hid hm
          clear hm
          go_wp2_with fail
          go_round
          case rel => exact ⟨k + 1, by go_num, by omega, hid ⟨HM.out, hle⟩⟩
          case measure => simp [intOf]; omega
        · have htop : Hid (k = 6 ∨ ¬ (B % sz (k + 1) = 0 ∧ B + sz (k + 1) ≤ n)) := hid (by
            by_cases e : k = 6
            · exact .inl e
            · exact .inr (fun h => hc ⟨by omega, h⟩))
          have hways : (¬ (k : Int) < 6) ∨ ((k : Int) < 6 ∧ (B % sz (k + 1) == 0) = false) ∨ ((k : Int) < 6 ∧ (B % sz (k + 1) == 0) = true ∧ ¬ B + sz (k + 1) ≤ n) := by
            by_cases e : (k : Int) < 6
            · by_cases e2 : B % sz (k + 1) = 0
              · exact .inr (.inr ⟨e, beq_iff_eq.2 e2, fun h => hc ⟨by omega, e2, h⟩⟩)
              · exact .inr (.inl ⟨e, beq_eq_false_iff_ne.2 e2⟩)
            · exact .inl e
          clear hc
          rcases hways with e | ⟨e, e2⟩ | ⟨e, e2, e3⟩
          · go_wp2_with fail
            have HL := hid (HPx.out.lays k (by omega) B)
            have hltp := HPx.out.lt
            have hfz := HPx.out.fz (1 + k)
            have hk7 : (k : Int) < 7 := by omega
            have hcf := HPx.out.cf k (by omega)
            go_region_law (refine step_append_int rfl _ _ rfl (vs1 k) (fr k) rfl HL.out.1 wo.heap.size 1 B rfl HL.out.2.1 (by omega) ?_; intro g3 z3 w3 hi3 t3 ho3; obtain ⟨hc3, hf3⟩ := HL.out.2.2 w3 t3; have HI3 := hid hi3; have HT3 := hid t3; have HO3 := hid ho3; clear hi3 t3 ho3)
            all_goals
              go_wp2_with fail
              go_roundw
              case rel => exact ⟨B + sz k, _, rfl, by omega, hkn, hid (hPart.out.step (by omega) hB0 hk.out.1 hkn htop.out), hid trivial, hid (PoolAfter.trans HTx.out HGx.out (HPx.out.appended k (by omega) (c := B) HT3.out HI3.out HO3.out))⟩
              case measure => first | (simp [intOf]; done) | (simp [intOf]; omega)
          · go_wp2_with fail
            have HL := hid (HPx.out.lays k (by omega) B)
            have hltp := HPx.out.lt
            have hfz := HPx.out.fz (1 + k)
            have hk7 : (k : Int) < 7 := by omega
            have hcf := HPx.out.cf k (by omega)
            go_region_law (refine step_append_int rfl _ _ rfl (vs1 k) (fr k) rfl HL.out.1 wo.heap.size 1 B rfl HL.out.2.1 (by omega) ?_; intro g3 z3 w3 hi3 t3 ho3; obtain ⟨hc3, hf3⟩ := HL.out.2.2 w3 t3; have HI3 := hid hi3; have HT3 := hid t3; have HO3 := hid ho3; clear hi3 t3 ho3)
            all_goals
              go_wp2_with fail
              go_roundw
              case rel => exact ⟨B + sz k, _, rfl, by omega, hkn, hid (hPart.out.step (by omega) hB0 hk.out.1 hkn htop.out), hid trivial, hid (PoolAfter.trans HTx.out HGx.out (HPx.out.appended k (by omega) (c := B) HT3.out HI3.out HO3.out))⟩
              case measure => first | (simp [intOf]; done) | (simp [intOf]; omega)
          · go_wp2_with fail
            have HL := hid (HPx.out.lays k (by omega) B)
            have hltp := HPx.out.lt
            have hfz := HPx.out.fz (1 + k)
            have hk7 : (k : Int) < 7 := by omega
            have hcf := HPx.out.cf k (by omega)
            go_region_law (refine step_append_int rfl _ _ rfl (vs1 k) (fr k) rfl HL.out.1 wo.heap.size 1 B rfl HL.out.2.1 (by omega) ?_; intro g3 z3 w3 hi3 t3 ho3; obtain ⟨hc3, hf3⟩ := HL.out.2.2 w3 t3; have HI3 := hid hi3; have HT3 := hid t3; have HO3 := hid ho3; clear hi3 t3 ho3)
            all_goals
              go_wp2_with fail
              go_roundw
              case rel => exact ⟨B + sz k, _, rfl, by omega, hkn, hid (hPart.out.step (by omega) hB0 hk.out.1 hkn htop.out), hid trivial, hid (PoolAfter.trans HTx.out HGx.out (HPx.out.appended k (by omega) (c := B) HT3.out HI3.out HO3.out))⟩
              case measure => first | (simp [intOf]; done) | (simp [intOf]; omega)
    · have hBe : B = n := by omega
      obtain ⟨vs1, hpx, tx, gx⟩ := hP.out
      have HPx := hid hpx
      have HTx := hid tx
      have HGx := hid gx
      clear hpx tx gx
      go_wp2_with fail
      go_ret2
      have hp2 := hPart.out
      rw [hBe] at hp2
      refine ⟨p, mb, vs1, fr, rfl, HPx.out, hp2.good, HT0.out.trans' HTx.out (fun k hk hf => ?_), fun k hk => ?_⟩
      · rcases hf with e | e | ⟨j, _, e⟩
        · have := HPM.out.1; omega
        · have := HPM.out.2; omega
        · cases e
      · rcases HGx.out k hk with hf | hf
        · rcases hf with e | e | ⟨j, _, e⟩
          · have := HPM.out.1; omega
          · have := HPM.out.2; omega
          · cases e
        · have := HT0.out.size; omega
end Go.Proofs.YtiohpmcedfbcgabGreatDoor
