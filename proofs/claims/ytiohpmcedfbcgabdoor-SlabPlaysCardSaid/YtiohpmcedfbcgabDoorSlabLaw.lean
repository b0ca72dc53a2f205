/- A cache over a pool, and the document's over its own: what they are together; after each operation of both they answer alike and are tied again. Conditions: each theorem's own premises. -/
import Derived.Test.YtiohpmcedfbcgabDoorSlabTie
namespace Go.Proofs.YtiohpmcedfbcgabDoor
open Go.RowKit
set_option linter.unusedVariables false

structure SPair (W w : World) (p mb : Nat) (vs : Nat → Value) (q : Pl) (cb sm per : Nat) (l : List (Int × Nat)) (B : Nat → Nat → Bool) (rp fb rmb cp n : Nat) (g : Bits) (tk : List Bk) (dc tm : Nat) (v : Value) (fs : List Int) (tl : List (Int × Unit)) : Prop where
  sp : SPool w p mb vs q cb sm per l B
  ref : RefAt w rp fb rmb cp n g tk
  ca : CacheAt w dc tm rp per v fs tl
  turn : Turn (fun _ => False) W w
  newS : ∀ k, Feet p mb vs cb sm l k → W.heap.size ≤ k
  newR : ∀ k, RefFoot rp fb rmb k → W.heap.size ≤ k
  newC : ∀ k, CFoot dc tm v k → W.heap.size ≤ k
  apR : ∀ k, Feet p mb vs cb sm l k → ¬ RefFoot rp fb rmb k
  apC : ∀ k, Feet p mb vs cb sm l k → ¬ CFoot dc tm v k
  apCR : ∀ k, CFoot dc tm v k → ¬ RefFoot rp fb rmb k
section
variable {W w w' : World} {p mb cb sm per rp fb rmb cp n dc tm : Nat} {vs : Nat → Value} {q q' : Pl} {l l' : List (Int × Nat)} {B B' : Nat → Nat → Bool} {g g' : Bits} {tk tk' : List Bk} {v v' : Value} {fs fs' : List Int} {tl tl' : List (Int × Unit)} {fr : Fr}
theorem SPair.turned (h : SPair W w p mb vs q cb sm per l B rp fb rmb cp n g tk dc tm v fs tl) (t : Turn (fun _ => False) w w') : SPair W w' p mb vs q cb sm per l B rp fb rmb cp n g tk dc tm v fs tl :=
  { h with sp := h.sp.turned t (fun _ _ => id), ref := h.ref.turned t (fun _ _ => id), ca := h.ca.turned t (fun _ _ => id), turn := h.turn.trans t }
theorem SPair.doc (h : SPair W w p mb vs q cb sm per l B rp fb rmb cp n g tk dc tm v fs tl) (hr : RefAt w' rp fb rmb cp n g' tk') (hc : CacheAt w' dc tm rp per v' fs' tl') (t : Turn (fun k => CFoot dc tm v k ∨ RefFoot rp fb rmb k) w w')
    (hv : ∀ q, v'.ownBlock = some q → v.ownBlock = some q ∨ w.heap.size ≤ q) : SPair W w' p mb vs q cb sm per l B rp fb rmb cp n g' tk' dc tm v' fs' tl' := by
  have hcf : ∀ k, CFoot dc tm v' k → CFoot dc tm v k ∨ w.heap.size ≤ k := fun k hk => by
    rcases hk with h1 | h1 | h1
    · exact .inl (.inl h1)
    · exact .inl (.inr (.inl h1))
    · exact (hv k h1).imp (fun e => .inr (.inr e)) id
  refine ⟨h.sp.turned t (fun k hk e => e.elim (h.apC k hk) (h.apR k hk)), hr, hc, h.turn.trans' t (fun k hk e => e.elim (fun e => by have := h.newC k e; omega) (fun e => by have := h.newR k e; omega)), h.newS, h.newR, fun k hk => ?_, h.apR, fun k hk hk2 => ?_, fun k hk hk2 => ?_⟩
  · rcases hcf k hk with h1 | h1
    · exact h.newC k h1
    · exact Nat.le_trans h.turn.size h1
  · rcases hcf k hk2 with h1 | h1
    · exact h.apC k hk h1
    · have := h.sp.feet_lt k hk; omega
  · rcases hcf k hk with h1 | h1
    · exact h.apCR k h1 hk2
    · have := h.ref.foot_lt k hk2; omega
theorem SPair.prog (h : SPair W w p mb vs q cb sm per l B rp fb rmb cp n g tk dc tm v fs tl) (ha : SAfter p mb vs cb sm per l w w' q' l' B') : ∃ vs', SPair W w' p mb vs' q' cb sm per l' B' rp fb rmb cp n g tk dc tm v fs tl := by
  obtain ⟨vs', a, t, c⟩ := ha
  refine ⟨vs', a, h.ref.turned t (fun k hk e => h.apR k e hk), h.ca.turned t (fun k hk e => h.apC k e hk), h.turn.trans' t (fun k hk e => by have := h.newS k e; omega), fun k hk => ?_, h.newR, h.newC, fun k hk hk2 => ?_, fun k hk hk2 => ?_, h.apCR⟩
  · rcases c k hk with h1 | h1
    · exact h.newS k h1
    · exact Nat.le_trans h.turn.size h1
  · rcases c k hk with h1 | h1
    · exact h.apR k h1 hk2
    · have := h.ref.foot_lt k hk2; omega
  · rcases c k hk with h1 | h1
    · exact h.apC k h1 hk2
    · have := h.ca.foot_lt k hk2; omega
theorem SPool.pooled {fr' : Fr} (h : SPool w p mb vs q cb sm per l B) (hp : PoolAfter p mb vs w w' ⟨q.n, fr', tk'⟩) (hg : Good q.n fr' tk') (hk : ∀ t ∈ l, mget tk' t.1 = some 0) : SAfter p mb vs cb sm per l w w' ⟨q.n, fr', tk'⟩ l B := by
  obtain ⟨vs', a, t, c⟩ := hp
  refine ⟨vs', ⟨a, hg, h.hn, h.slab.turned t h.ap, hk, fun k hk hf => ?_, h.p1, h.p2⟩, t.mono fun _ _ h => .inl h, fun k hk => ?_⟩
  · rcases c k hf with h1 | h1
    · exact h.ap k hk h1
    · have := h.slab.foot_lt k hk; omega
  · rcases hk with h1 | h1
    · exact (c k h1).imp .inl id
    · exact .inl (.inr h1)

/-- Both, tied. -/
def SLaw (W w : World) (p mb cb sm per rp fb rmb cp n dc tm : Nat) : Prop :=
  ∃ (vs : Nat → Value) (fr : Fr) (tk : List Bk) (l : List (Int × Nat)) (B : Nat → Nat → Bool) (g : Bits) (v : Value) (tl : List (Int × Unit)),
    SPair W w p mb vs ⟨(n : Int), fr, tk⟩ cb sm per l B rp fb rmb cp n g tk dc tm v (framesOfL l) tl ∧ BitsOf n tk g ∧ TieS tl l B per
theorem nonneg_of (h : SPool w p mb vs q cb sm per l B) : ∀ t ∈ l, 0 ≤ t.1 := fun t ht => (h.frame t ht).1
theorem frames_in (h : SPool w p mb vs q cb sm per l B) : ∀ f ∈ framesOfL l, 0 ≤ f ∧ f < 256 := fun f hf => by
  obtain ⟨t, h1, rfl⟩ := List.mem_map.1 (mem_framesOfL.1 hf)
  have h2 := h.frame t h1
  have h3 := h.hn
  exact ⟨h2.1, by omega⟩
theorem frames_held (h : SPool w p mb vs q cb sm per l B) : ∀ f ∈ framesOfL l, mget q.tk f = some 0 := fun f hf => by
  obtain ⟨t, h1, rfl⟩ := List.mem_map.1 (mem_framesOfL.1 hf)
  exact h.held t h1
theorem free_nothing (h : SPool w p mb vs q cb sm per l B) (ht : TieS tl l B per) : ∀ k b, k < 7 → b ∈ q.fr k → mget tl (b * per) = none := fun k b hk hb => by
  have hok := h.good.okF k b hk hb
  cases e : mget tl (b * per) with
  | none => rfl
  | some u =>
    exfalso
    have h1 := (ht (b * per)).1 (by rw [e]; rfl)
    have h2 := (there_iff (l := l) (B := B) (per := per) (f := b) (j := 0) hok.2.1 (by have := h.p1; omega)).1 (by simpa using h1)
    obtain ⟨nb, h3, _⟩ := h2
    have h4 := h.held _ (mem_of_mget h3)
    refine h.good.ft k b hk hb (b, 0) (mem_of_mget h4) ?_
    have h5 := sz_pos k
    have h6 := sz_pos 0
    exact ⟨by simp only; omega, by simp only; omega⟩
theorem least_same {fr : Fr} {o k k' : Nat} {b b' : Int} (h1 : o ≤ k) (hk : k < 7) (hlow : ∀ j, o ≤ j → j < k → fr j = []) (hb : b ∈ fr k) (hl : ∀ c ∈ fr k, b ≤ c)
    (h1' : o ≤ k') (hk' : k' < 7) (hlow' : ∀ j, o ≤ j → j < k' → fr j = []) (hb' : b' ∈ fr k') (hl' : ∀ c ∈ fr k', b' ≤ c) : k' = k ∧ b' = b := by
  have hkk : k' = k := by
    rcases Nat.lt_trichotomy k' k with h | h | h
    · rw [hlow k' h1' h] at hb'; cases hb'
    · exact h
    · rw [hlow' k h1 h] at hb; cases hb
  subst hkk
  have e1 := hl b' hb'
  have e2 := hl' b hb
  exact ⟨rfl, by omega⟩

/-- Alloc of both. -/
def DocAlloc (rp fb rmb cp n : Nat) (g : Bits) (tk : List Bk) (fr : Fr) (dc tm per : Nat) (v : Value) (fs : List Int) (tl : List (Int × Unit)) (w : World) (e : Ending) (w' : World) : Prop :=
  RefOld rp dc tm per v fs tl (docPick (fun f => hasC tl per f per) per fs) w e w' ∨ RefFull dc fr (docPick (fun f => hasC tl per f per) per fs) w e w' ∨ RefNew rp fb rmb cp n g tk fr dc tm per v fs tl (docPick (fun f => hasC tl per f per) per fs) w e w'
def ProgAlloc (p mb : Nat) (vs : Nat → Value) (q : Pl) (cb sm per : Nat) (l : List (Int × Nat)) (B : Nat → Nat → Bool) (w : World) (e : Ending) (w' : World) : Prop :=
  SlabOld p mb vs q cb sm per l B w e w' ∨ SlabFull p mb vs q cb sm per l B w e w' ∨ SlabNew p mb vs q cb sm per l B w e w'
theorem errB12 : errB 12 = .iface 40 (.int .i64 12) := rfl
theorem errB7 : errB 7 = .iface 40 (.int .i64 7) := rfl
theorem errB1 : errB 1 = .iface 40 (.int .i64 1) := rfl
theorem both_alloc (h : SPair W w p mb vs ⟨(n : Int), fr, tk⟩ cb sm per l B rp fb rmb cp n g tk dc tm v (framesOfL l) tl) (hb : BitsOf n tk g) (ht : TieS tl l B per) {e : Ending} (hd : DocAlloc rp fb rmb cp n g tk fr dc tm per v (framesOfL l) tl w e w') :
    ∃ k z : Int, e = .returned (.tuple #[.int .i64 k, .int .i64 z]) ∧ SPool w' p mb vs ⟨(n : Int), fr, tk⟩ cb sm per l B ∧ Turn (fun _ => False) W w' ∧
      ∀ e' w2, ProgAlloc p mb vs ⟨(n : Int), fr, tk⟩ cb sm per l B w' e' w2 → e' = .returned (.tuple #[.int .i64 k, errB z]) ∧ SLaw W w2 p mb cb sm per rp fb rmb cp n dc tm := by
  have hn0 := nonneg_of h.sp
  have hpk := docPick_is ht hn0
  unfold DocAlloc at hd
  rw [hpk] at hd
  have hpos : ∀ b, mget l (pickOf l B per) = some b → 0 ≤ pickOf l B per := fun b hb => hn0 _ (mem_of_mget hb)
  rcases hd with ⟨h0, j, hj, hno, hyes, rfl, hc, t⟩ | ⟨hneg, hemp, rfl, t⟩ | ⟨hneg, k, base, v', hk7, hlow, hbm, hbl, rfl, hc, hr, t, hv⟩
  · have h1 := h.doc (h.ref.turned t (fun k hk e => h.apCR tm (.inr (.inl rfl)) (e ▸ hk))) hc (t.mono fun k _ e => .inl (.inr (.inl e))) (fun q hq => .inl hq)
    refine ⟨_, 0, rfl, h1.sp, h1.turn, ?_⟩
    rintro e' w2 (⟨b, k, hb', hk, hno', hyes', rfl, ha⟩ | ⟨hneg, _⟩ | ⟨hneg, _⟩)
    · have hf : ∀ i, i < per → ((mget tl (pickOf l B per * per + i)).isSome = true ↔ B b i = true) := fun i hi => by
        rw [ht, there_iff h0 hi]
        constructor
        · rintro ⟨b2, h2, h3⟩
          rw [hb'] at h2; cases h2; exact h3
        · exact fun h3 => ⟨b, hb', h3⟩
      have hjk : k = j := by
        rcases Nat.lt_trichotomy k j with h2 | h2 | h2
        · have := (hf k hk).1 (hyes k h2)
          rw [hno'] at this; cases this
        · exact h2
        · have := (hf j hj).2 (hyes' j h2)
          rw [hno] at this; cases this
      subst hjk
      refine ⟨rfl, ?_⟩
      obtain ⟨vs', h2⟩ := h1.prog ha
      exact ⟨vs', fr, tk, l, _, g, v, _, h2, hb, ht.made h.sp.slab.inj h.sp.p1 hb' h0 hj⟩
    · omega
    · omega
  · have h1 := h.turned t
    refine ⟨0, 12, rfl, h1.sp, h1.turn, ?_⟩
    rintro e' w2 (⟨b, k, hb', _⟩ | ⟨_, _, rfl, t2⟩ | ⟨_, k, base, fr', nb, hk7, _, hbm, _⟩)
    · have := hpos b hb'; omega
    · exact ⟨rfl, vs, fr, tk, l, B, g, v, tl, h1.turned t2, hb, ht⟩
    · have := hemp k hk7
      simp only at hbm
      rw [this] at hbm; cases hbm
  · have h1 := h.doc hr hc t hv
    refine ⟨_, 0, rfl, h1.sp, h1.turn, ?_⟩
    rintro e' w2 (⟨b, k, hb', _⟩ | ⟨_, hemp, _⟩ | ⟨_, k', base', fr', nb, hk7', hlow', hbm', hbl', hmt, hml, hb0, hnb, rfl, ha⟩)
    · have := hpos b hb'; omega
    · have := hemp k hk7
      simp only at this
      rw [this] at hbm; cases hbm
    · obtain ⟨rfl, rfl⟩ := least_same (o := 0) (Nat.zero_le _) hk7 (fun j _ hj => hlow j hj) hbm hbl (Nat.zero_le _) hk7' (fun j _ hj => hlow' j hj) hbm' hbl'
      refine ⟨rfl, ?_⟩
      obtain ⟨vs', h2⟩ := h1.prog ha
      have hnb2 : ∀ t ∈ l, t.2 ≠ nb := fun t ht e => by
        have := h1.sp.slab.foot_lt t.2 (.inr (.inr (List.mem_map.2 ⟨t, ht, rfl⟩)))
        omega
      rw [← frames_new l base' nb] at h2
      exact ⟨vs', fr', _, _, _, _, v', _, h2, hb.took (o := 0) hmt, ht.new h.sp.p1 hb0 hml hnb2⟩

/-- Give of both. -/
def ProgGive (p mb : Nat) (vs : Nat → Value) (q : Pl) (cb sm per : Nat) (l : List (Int × Nat)) (B : Nat → Nat → Bool) (x : Int) (w : World) (e : Ending) (w' : World) : Prop :=
  (¬ ThereB l B per x ∧ e = .returned (.iface 40 (.int .i64 7)) ∧ Turn (fun _ => False) w w') ∨ GaveS p mb vs q cb sm per l B x w e w'
def DocGive (dc tm rp per : Nat) (v : Value) (fs : List Int) (tl : List (Int × Unit)) (x : Int) (w : World) (e : Ending) (w' : World) : Prop :=
  (mget tl x = none ∧ e = .returned (.int .i64 7) ∧ w = w') ∨ (mget tl x = some () ∧ e = .returned (.int .i64 0) ∧ CacheAt w' dc tm rp per v fs (mdel tl x) ∧ Turn (fun k => k = tm) w w')
theorem both_give (h : SPair W w p mb vs ⟨(n : Int), fr, tk⟩ cb sm per l B rp fb rmb cp n g tk dc tm v (framesOfL l) tl) (hb : BitsOf n tk g) (ht : TieS tl l B per) {x : Int} {e : Ending} (hd : ProgGive p mb vs ⟨(n : Int), fr, tk⟩ cb sm per l B x w e w') :
    ∃ z : Int, e = .returned (errB z) ∧ CacheAt w' dc tm rp per v (framesOfL l) tl ∧ Turn (Feet p mb vs cb sm l) w w' ∧
      ∀ e' w2, DocGive dc tm rp per v (framesOfL l) tl x w' e' w2 → e' = .returned (.int .i64 z) ∧ SLaw W w2 p mb cb sm per rp fb rmb cp n dc tm ∧ Turn (fun k => k = tm) w' w2 := by
  rcases hd with ⟨hno, rfl, t⟩ | ⟨hx0, b, hb', hv, rfl, ha⟩
  · have h1 := h.turned t
    refine ⟨7, rfl, h1.ca, t.mono fun _ _ h => h.elim, ?_⟩
    rintro e' w2 (⟨_, rfl, rfl⟩ | ⟨hs, _⟩)
    · exact ⟨rfl, ⟨vs, fr, tk, l, B, g, v, tl, h1, hb, ht⟩, Turn.refl _ _⟩
    · exact absurd ((ht x).1 (by rw [hs]; rfl)) hno
  · obtain ⟨vs', h1⟩ := h.prog ha
    obtain ⟨_, _, t, _⟩ := ha
    refine ⟨0, rfl, h1.ca, t, ?_⟩
    rintro e' w2 (⟨hnone, _⟩ | ⟨hs, rfl, hc, t2⟩)
    · have := (ht x).2 ⟨hx0, b, hb', hv⟩
      rw [hnone] at this; cases this
    · obtain ⟨e1, e2⟩ := frame_of per h.sp.p1 x
      have hf0 : 0 ≤ x / (per : Int) := nonneg_of h.sp _ (mem_of_mget hb')
      have htw := ht.went h.sp.slab.inj h.sp.p1 hb' hf0 e2
      rw [← e1] at htw
      have h2 := h1.doc (h1.ref.turned t2 (fun k hk e => h.apCR tm (.inr (.inl rfl)) (e ▸ hk))) hc (t2.mono fun k _ e => .inl (.inr (.inl e))) (fun q hq => .inl hq)
      exact ⟨rfl, ⟨vs', fr, tk, l, _, g, v, _, h2, hb, htw⟩, t2⟩

/-- Reap of both. -/
theorem both_reap (h : SPair W w p mb vs ⟨(n : Int), fr, tk⟩ cb sm per l B rp fb rmb cp n g tk dc tm v (framesOfL l) tl) (ht : TieS tl l B per) {e : Ending} (hd : SlabReaped p mb vs ⟨(n : Int), fr, tk⟩ cb sm per l B w e w') :
    ∃ N : Nat, e = .returned (.int .i64 N) ∧ CacheAt w' dc tm rp per v (framesOfL l) tl ∧ RefAt w' rp fb rmb cp n g tk ∧
      ∀ e' w2, RefReaped rp fb rmb cp n tk dc tm per v (framesOfL l) tl w' e' w2 → e' = .returned (.int .i64 N) ∧ SLaw W w2 p mb cb sm per rp fb rmb cp n dc tm := by
  obtain ⟨fr', rfl, ha⟩ := hd
  obtain ⟨vs', h1⟩ := h.prog ha
  refine ⟨_, rfl, h1.ca, h1.ref, ?_⟩
  rintro e' w2 ⟨v', g', rfl, hc, hr, hb', t, hv⟩
  have hn0 := nonneg_of h.sp
  have h2 := h1.doc hr hc t (fun q hq => .inr (hv q hq))
  rw [left_frames ht h.sp.slab.mp.nodup hn0, gone_is ht hn0] at h2
  rw [gone_is ht hn0] at hb' ⊢
  exact ⟨rfl, vs', fr', _, _, B, g', v', tl, h2, hb', ht.reaped h.sp.p1⟩

/-- The pools' Alloc. -/
def DocPool (rp fb rmb cp n : Nat) (g : Bits) (tk : List Bk) (fr : Fr) (x : Int) (w : World) (e : Ending) (w' : World) : Prop :=
  ((x < 0 ∨ 6 < x) ∧ e = .returned (.tuple #[.int .i64 0, .int .i64 1]) ∧ w = w') ∨ ∃ o : Nat, x = o ∧ o ≤ 6 ∧
    (((∀ k, o ≤ k → k < 7 → fr k = []) ∧ e = .returned (.tuple #[.int .i64 0, .int .i64 12]) ∧ Turn (fun _ => False) w w') ∨
     ∃ (k : Nat) (base : Int), o ≤ k ∧ k < 7 ∧ (∀ j, o ≤ j → j < k → fr j = []) ∧ base ∈ fr k ∧ (∀ c ∈ fr k, base ≤ c) ∧ e = .returned (.tuple #[.int .i64 base, .int .i64 0]) ∧ RefAt w' rp fb rmb cp n (fill g base (base + sz o) false) (mput tk base o) ∧ Turn (fun j => j = fb ∨ j = rmb) w w')
theorem docPool_any (h : RefAt w rp fb rmb cp n g tk) (hg : Good n fr tk) (hb : BitsOf n tk g) (hn : n ≤ 256) (x : Int) : Calls Tryd.prog 26 #[.pointer (some ⟨rp, 0, none⟩), .int .i64 x] w (DocPool rp fb rmb cp n g tk fr x w) := by
  by_cases ho : x < 0 ∨ 6 < x
  · refine (refAlloc_arg rp x ho).mono ?_
    rintro e w' ⟨rfl, rfl⟩
    exact .inl ⟨ho, rfl, rfl⟩
  · obtain ⟨o, rfl⟩ : ∃ o : Nat, x = o := ⟨x.toNat, by omega⟩
    have ho6 : o ≤ 6 := by omega
    by_cases hno : ∀ k, o ≤ k → k < 7 → fr k = []
    · refine (refAlloc_any h hg hb hn o ho6 (-1) 0 (fun l hl => best_none (n := n) (tk := tk) hno l hl) (fun h => by omega)).mono ?_
      rintro e w6 (⟨_, rfl, t6⟩ | ⟨h0, _⟩)
      · exact .inr ⟨o, rfl, ho6, .inl ⟨hno, rfl, t6⟩⟩
      · exact absurd h0 (by decide)
    · obtain ⟨k, hok, hk7, hne, hlow⟩ := order_pick hno
      obtain ⟨base, hbm, hbl⟩ := least_pick hne
      obtain ⟨_, hb0, _, hbn⟩ := hg.okF k base hk7 hbm
      have hso : sz o ≤ sz k := by
        obtain ⟨d, rfl⟩ : ∃ d, k = o + d := ⟨k - o, by omega⟩
        have e := sz_mul o d
        rw [e]
        have h1 := sz_pos o
        have h2 := sz_pos d
        have h3 := Int.mul_le_mul_of_nonneg_right (show (1 : Int) ≤ sz d by omega) (show (0 : Int) ≤ sz o by omega)
        rw [Int.one_mul] at h3
        exact h3
      refine (refAlloc_any h hg hb hn o ho6 base k (fun l hl => best_some hg hok hk7 hlow hbm hbl l hl) (fun h => by omega)).mono ?_
      rintro e w6 (⟨h0, _⟩ | ⟨_, rfl, hr6, t6⟩)
      · exact absurd h0 (by simp only; omega)
      · exact .inr ⟨o, rfl, ho6, .inr ⟨k, base, hok, hk7, hlow, hbm, hbl, rfl, hr6, t6⟩⟩
def ProgPool (p mb : Nat) (vs : Nat → Value) (q : Pl) (x : Int) (w : World) (e : Ending) (w' : World) : Prop :=
  ((x < 0 ∨ 6 < x) ∧ e = .returned (.tuple #[.int .i64 0, .iface 40 (.int .i64 1)]) ∧ w = w') ∨ ∃ o : Nat, x = o ∧ o ≤ 6 ∧ (AllocFull q o w e w' ∨ AllocGot p mb vs q o w e w')
theorem progPool_any (h : SPool w p mb vs q cb sm per l B) (x : Int) : Calls Tryd.prog 18 #[.pointer (some ⟨p, 0, none⟩), .int .i64 x] w (ProgPool p mb vs q x w) := by
  by_cases ho : x < 0 ∨ 6 < x
  · refine (alloc_arg p x ho).mono ?_
    rintro e w' ⟨rfl, rfl⟩
    exact .inl ⟨ho, rfl, rfl⟩
  · obtain ⟨o, rfl⟩ : ∃ o : Nat, x = o := ⟨x.toNat, by omega⟩
    have ho6 : o ≤ 6 := by omega
    exact (alloc_any h.pool o ho6 h.good h.hn).mono fun e w' h => .inr ⟨o, rfl, ho6, h⟩
theorem both_pool (h : SPair W w p mb vs ⟨(n : Int), fr, tk⟩ cb sm per l B rp fb rmb cp n g tk dc tm v (framesOfL l) tl) (hb : BitsOf n tk g) (ht : TieS tl l B per) {x : Int} {e : Ending} (hd : DocPool rp fb rmb cp n g tk fr x w e w') :
    ∃ k z : Int, e = .returned (.tuple #[.int .i64 k, .int .i64 z]) ∧ SPool w' p mb vs ⟨(n : Int), fr, tk⟩ cb sm per l B ∧ Turn (fun j => j = fb ∨ j = rmb) w w' ∧
      ∀ e' w2, ProgPool p mb vs ⟨(n : Int), fr, tk⟩ x w' e' w2 → e' = .returned (.tuple #[.int .i64 k, errB z]) ∧ SLaw W w2 p mb cb sm per rp fb rmb cp n dc tm ∧ Turn (Feet p mb vs cb sm l) w' w2 := by
  rcases hd with ⟨ho, rfl, rfl⟩ | ⟨o, rfl, ho6, ⟨hemp, rfl, t⟩ | ⟨k, base, hok, hk7, hlow, hbm, hbl, rfl, hr, t⟩⟩
  · refine ⟨0, 1, rfl, h.sp, Turn.refl _ _, ?_⟩
    rintro e' w2 (⟨_, rfl, rfl⟩ | ⟨o, rfl, _⟩)
    · exact ⟨rfl, ⟨vs, fr, tk, l, B, g, v, tl, h, hb, ht⟩, Turn.refl _ _⟩
    · omega
  · have h1 := h.turned t
    refine ⟨0, 12, rfl, h1.sp, t.mono fun _ _ h => h.elim, ?_⟩
    rintro e' w2 (⟨ho, _⟩ | ⟨o', e1, _, ⟨rfl, rfl, _⟩ | ⟨k, base, fr', hok, hk7, _, hbm, _⟩⟩)
    · omega
    · exact ⟨rfl, ⟨vs, fr, tk, l, B, g, v, tl, h1, hb, ht⟩, Turn.refl _ _⟩
    · have := hemp k (by omega) hk7
      simp only at hbm
      rw [this] at hbm; cases hbm
  · have hc := h.ca.turned t (fun k hk e => h.apCR k hk (e.elim (fun e => .inr (.inl e)) fun e => .inr (.inr e)))
    have h1 := h.doc hr hc (t.mono fun k _ e => .inr (e.elim (fun e => .inr (.inl e)) fun e => .inr (.inr e))) (fun q hq => .inl hq)
    refine ⟨base, 0, rfl, h1.sp, t, ?_⟩
    rintro e' w2 (⟨ho, _⟩ | ⟨o', e1, _, ⟨rfl, _, hemp⟩ | ⟨k', base', fr', hok', hk7', hlow', hbm', hbl', rfl, hmn, hg', ha⟩⟩)
    · omega
    · have := hemp k (by omega) hk7
      simp only at this
      rw [this] at hbm; cases hbm
    · obtain rfl : o = o' := by omega
      obtain ⟨rfl, rfl⟩ := least_same hok hk7 hlow hbm hbl hok' hk7' hlow' hbm' hbl'
      refine ⟨rfl, ?_⟩
      have hsa := h1.sp.pooled ha hg' (fun t ht => by
        have h3 := h1.sp.held t ht
        rw [mget_mput, if_neg (fun e => by rw [e] at h3; rw [hmn] at h3; cases h3)]
        exact h3)
      obtain ⟨vs', h2⟩ := h1.prog hsa
      obtain ⟨_, _, t2, _⟩ := hsa
      exact ⟨⟨vs', fr', _, l, B, _, v, tl, h2, hb.took hmn, ht⟩, t2⟩
theorem SLaw.turned (h : SLaw W w p mb cb sm per rp fb rmb cp n dc tm) (t : Turn (fun _ => False) w w') : SLaw W w' p mb cb sm per rp fb rmb cp n dc tm := by
  obtain ⟨vs, fr, tk, l, B, g, v, tl, h1, h2, h3⟩ := h
  exact ⟨vs, fr, tk, l, B, g, v, tl, h1.turned t, h2, h3⟩
theorem SLaw.since (h : SLaw W w p mb cb sm per rp fb rmb cp n dc tm) : Turn (fun _ => False) W w := by
  obtain ⟨vs, fr, tk, l, B, g, v, tl, h1, h2, h3⟩ := h
  exact h1.turn
theorem docAlloc_any (h : SPair W w p mb vs ⟨(n : Int), fr, tk⟩ cb sm per l B rp fb rmb cp n g tk dc tm v (framesOfL l) tl) (hb : BitsOf n tk g) (ht : TieS tl l B per) :
    Calls Tryd.prog 56 #[.pointer (some ⟨dc, 0, none⟩)] w (DocAlloc rp fb rmb cp n g tk fr dc tm per v (framesOfL l) tl w) :=
  refSAlloc_any h.ca h.sp.p1 h.sp.p2 (frames_in h.sp) (by rw [framesOfL_length]; exact h.sp.len) h.ref h.sp.good hb (by have := h.sp.hn; simp only at this; omega) h.apCR (free_nothing h.sp ht)
theorem docReap_any (h : SPair W w p mb vs ⟨(n : Int), fr, tk⟩ cb sm per l B rp fb rmb cp n g tk dc tm v (framesOfL l) tl) (hb : BitsOf n tk g) (hc : CacheAt w' dc tm rp per v (framesOfL l) tl) (hr : RefAt w' rp fb rmb cp n g tk) :
    Calls Tryd.prog 61 #[.pointer (some ⟨dc, 0, none⟩)] w' (RefReaped rp fb rmb cp n tk dc tm per v (framesOfL l) tl w') :=
  refReap_any hc h.sp.p1 h.sp.p2 (by rw [framesOfL_length]; exact h.sp.len) (framesOfL_nodup h.sp.slab.mp.nodup) hr h.sp.good hb (by have := h.sp.hn; simp only at this; omega) h.apCR (frames_held h.sp)
end
theorem step_maplen {κ β : Type} [DecidableEq κ] {d : TypeDesc} {enc : κ → Value} {val : β → Value} {m : List (κ × β)} {P : Program} {ops : Array Oper} {o : Oper} {a : Act} {w : World} {K : Act → World → Prop} {Q : Exit → Act → World → Prop} {E : Prop}
    (hg : o.guard = none) (mo : Operand) (T kt et : TypeId) (hop : o.op = Op.call { callee := Callee.builtin Builtin.len, args := #[mo], argTypes := #[T] }) (hT : P.underlying T = some (.map kt et))
    (b : Nat) (hm : a.eval mo = .map (some b)) (h : MapIs w b d enc val m) (n : Nat) (hn : m.length = n) (hK : K (a.put o.dst (.int .i64 n)) w) :
    if Region.wanted o (yielded ops a.tmps) = true then Oper.wp P o a w K Q else E := by
  have hw : Region.wanted o (yielded ops a.tmps) = true := by simp [Region.wanted, hg]
  rw [if_pos hw]
  subst hn
  unfold Oper.wp
  simp [execOp, hop, resolve, invoke, builtin, hm, h.run_len hT o.type, Result.andThen]
  exact hK
end Go.Proofs.YtiohpmcedfbcgabDoor
