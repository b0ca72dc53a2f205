/- Package vm: what a store and a space are in memory; right, there, New, NewStore, Left, Len. Conditions: each theorem's own premises. -/
import Derived.Test.YtiohpmcedfbcgabGreatDoorBuddyGive
import Derived.Test.YtiohpmcedfbcgabGreatDoorBuddyCount
import Derived.Test.YtiohpmcedfbcgabGreatDoorFrames
import Derived.Test.YtiohpmcedfbcgabGreatDoorBase
import Derived.Test.YtiohpmcedfbcgabGreatDoorMapRange
import Derived.Deep.LoopGhost
import Derived.Outline
namespace Go.Proofs.YtiohpmcedfbcgabGreatDoor
open Go.RowKit
set_option linter.unusedVariables false

/-- The blocks of a store. -/
structure SB where
  sb : Nat
  mb : Nat
  wb : Nat
  p : Nat
  pmb : Nat
  rm : Nat
/-- What a store holds. -/
structure St where
  vs : Nat → Value
  fr : Fr
  tk : List Bk
  rl : List (Int × Nat)
  m : Nat → Nat → Int
def encRc (k : Nat) : Value := .int .i64 (k : Int)
structure StoreIs (w : World) (s : SB) (n : Nat) (t : St) : Prop where
  c0 : w.cell? ⟨s.sb, 0, none⟩ = some (.pointer (some ⟨s.mb, 0, none⟩))
  c1 : w.cell? ⟨s.sb, 1, none⟩ = some (.pointer (some ⟨s.p, 0, none⟩))
  c2 : w.cell? ⟨s.sb, 2, none⟩ = some (.map (some s.rm))
  mem : MemIs w s.mb s.wb n t.m
  pool : PoolAt w s.p s.pmb t.vs ⟨(n : Int), t.fr, t.tk⟩
  good : Good n t.fr t.tk
  refs : MapIs w s.rm (.int .i64) encI encRc t.rl
  same : ∀ f, mget t.tk f = (mget t.rl f).map fun _ => 0
  pos : ∀ f k, mget t.rl f = some k → 1 ≤ k ∧ k ≤ 100000
  ap : ∀ k, Foot s.p s.pmb t.vs k → k ≠ s.sb ∧ k ≠ s.rm ∧ k ≠ s.mb ∧ k ≠ s.wb
  ne : s.sb ≠ s.rm ∧ s.sb ≠ s.mb ∧ s.sb ≠ s.wb ∧ s.rm ≠ s.mb ∧ s.rm ≠ s.wb
def StFoot (s : SB) (vs : Nat → Value) (k : Nat) : Prop := k = s.sb ∨ k = s.rm ∨ k = s.mb ∨ k = s.wb ∨ Foot s.p s.pmb vs k
/-- How many pages have a frame. -/
def St.R (t : St) (f : Int) : Nat := (mget t.rl f).getD 0
section
variable {w w' : World} {s : SB} {n : Nat} {t t' : St}
theorem StoreIs.turned {S : Nat → Prop} (h : StoreIs w s n t) (tt : Turn S w w') (hn : ∀ k, StFoot s t.vs k → ¬ S k) : StoreIs w' s n t :=
  { h with
    c0 := (tt.cell (a := ⟨s.sb, 0, none⟩) (lt_of_cell h.c0) (hn _ (.inl rfl))).trans h.c0
    c1 := (tt.cell (a := ⟨s.sb, 1, none⟩) (lt_of_cell h.c1) (hn _ (.inl rfl))).trans h.c1
    c2 := (tt.cell (a := ⟨s.sb, 2, none⟩) (lt_of_cell h.c2) (hn _ (.inl rfl))).trans h.c2
    mem := h.mem.turned tt (hn _ (.inr (.inr (.inl rfl)))) (hn _ (.inr (.inr (.inr (.inl rfl)))))
    pool := h.pool.turned tt (fun k hk => hn k (.inr (.inr (.inr (.inr hk)))))
    refs := h.refs.turned tt (hn _ (.inr (.inl rfl))) }
theorem poolFoot_lt {p mb : Nat} {vs : Nat → Value} {q : Pl} (h : PoolAt w p mb vs q) (k : Nat) (hf : Foot p mb vs k) : k < w.heap.size := by
  rcases hf with rfl | rfl | ⟨j, hj, e⟩
  · exact h.lt
  · exact h.mp.lt
  · rcases (h.fi j hj).shape with ⟨h1, _⟩ | ⟨g, cap, h1, _, _, hg⟩
    · rw [h1] at e; cases e
    · rw [h1] at e; cases e; exact hg
theorem StoreIs.foot_lt (h : StoreIs w s n t) (k : Nat) (hk : StFoot s t.vs k) : k < w.heap.size := by
  rcases hk with rfl | rfl | rfl | rfl | hk
  · exact lt_of_cell h.c0
  · exact h.refs.lt
  · exact h.mem.lt_mb
  · exact h.mem.lt_wb
  · exact poolFoot_lt h.pool k hk
theorem StoreIs.hn (h : StoreIs w s n t) : n ≤ 256 := h.mem.most
theorem StoreIs.keyed (h : StoreIs w s n t) (f : Int) : 0 < t.R f ↔ mget t.tk f = some 0 := by
  unfold St.R
  rw [h.same f]
  cases hm : mget t.rl f with
  | none => simp
  | some k => simp; exact (h.pos f k hm).1
theorem StoreIs.frame (h : StoreIs w s n t) {f : Int} (hf : 0 < t.R f) : 0 ≤ f ∧ f < n := by
  have h1 := h.good.okT (f, 0) (mem_of_mget ((h.keyed f).1 hf))
  have h2 := h1.2.2.2
  have h3 : sz 0 = 1 := rfl
  simp only at h2
  rw [h3] at h2
  exact ⟨h1.2.1, by omega⟩
/-- How many frames are in use. -/
def usedN (R : Int → Nat) (n : Nat) : Nat := cntB (fun f => decide (0 < R (f : Int))) n
theorem ones_sum : ∀ {tk : List Bk}, (∀ t ∈ tk, t.2 = 0) → sumSz tk = tk.length
  | [], _ => rfl
  | t :: tk, h => by
    have h1 := ones_sum (tk := tk) (fun s hs => h s (List.mem_cons_of_mem _ hs))
    have h2 := h t (List.mem_cons_self ..)
    have e : sumSz (t :: tk) = sz t.2 + sumSz tk := by simp [sumSz]
    have h3 : sz 0 = 1 := rfl
    rw [e, h2, h3, h1, List.length_cons]
    omega
theorem StoreIs.left (h : StoreIs w s n t) : leftOf t.fr = (n : Int) - usedN t.R n := by
  have hnd : (t.tk.map Prod.fst).Nodup := h.pool.mp.nodup
  have hone : ∀ x ∈ t.tk, x.2 = 0 := fun x hx => by
    have h2 : mget t.tk x.1 = some x.2 := mget_mem hnd hx
    rw [h.same] at h2
    cases hm : mget t.rl x.1 with
    | none => rw [hm] at h2; cases h2
    | some k => rw [hm] at h2; exact (Option.some.inj h2).symm
  have hp : (t.tk.map Prod.fst).Perm (((List.range n).filter fun f : Nat => decide (0 < t.R (f : Int))).map fun f : Nat => (f : Int)) := by
    refine (List.perm_ext_iff_of_nodup hnd ?_).2 fun f => ?_
    · rw [List.Nodup, List.pairwise_map]
      exact ((List.nodup_range (n := n)).filter _).imp (fun hne e => hne (by omega))
    · constructor
      · intro hf
        obtain ⟨x, hx, rfl⟩ := List.mem_map.1 hf
        have h2 : mget t.tk x.1 = some 0 := by rw [mget_mem hnd hx, hone x hx]
        have h3 := (h.keyed x.1).2 h2
        obtain ⟨h4, h5⟩ := h.frame h3
        refine List.mem_map.2 ⟨x.1.toNat, List.mem_filter.2 ⟨List.mem_range.2 (by omega), ?_⟩, by omega⟩
        rw [show ((x.1.toNat : Nat) : Int) = x.1 by omega]
        exact decide_eq_true h3
      · intro hf
        obtain ⟨g, hg, rfl⟩ := List.mem_map.1 hf
        have h3 := of_decide_eq_true (List.mem_filter.1 hg).2
        exact List.mem_map.2 ⟨_, mem_of_mget ((h.keyed _).1 h3), rfl⟩
  have hl := hp.length_eq
  rw [List.length_map, List.length_map] at hl
  have h1 := h.good.left (by omega)
  rw [h1, ones_sum hone, hl]
  rfl

/-- A page: what it may be used for, and its frame. -/
abbrev Pg := Int × Int
def encPg (p : Pg) : Value := .agg #[.int .i64 p.1, .int .i64 p.2]
structure SpIs (w : World) (sp pm sb : Nat) (P : Int → Option Pg) : Prop where
  c0 : w.cell? ⟨sp, 0, none⟩ = some (.pointer (some ⟨sb, 0, none⟩))
  c1 : w.cell? ⟨sp, 1, none⟩ = some (.map (some pm))
  pages : ∃ pl : List (Int × Pg), MapIs w pm (.int .i64) encI encPg pl ∧ ∀ i, mget pl i = P i
  ne : sp ≠ pm
  dom : ∀ i p, P i = some p → 0 ≤ i ∧ i < 64
  ok : ∀ i p, P i = some p → 1 ≤ p.1 ∧ p.1 ≤ 3 ∧ -1 ≤ p.2 ∧ p.2 < 256
variable {sp pm sb : Nat} {P P' : Int → Option Pg}
theorem SpIs.turned {S : Nat → Prop} (h : SpIs w sp pm sb P) (tt : Turn S w w') (h1 : ¬ S sp) (h2 : ¬ S pm) : SpIs w' sp pm sb P :=
  { h with
    c0 := (tt.cell (a := ⟨sp, 0, none⟩) (lt_of_cell h.c0) h1).trans h.c0
    c1 := (tt.cell (a := ⟨sp, 1, none⟩) (lt_of_cell h.c1) h1).trans h.c1
    pages := let ⟨pl, hp, he⟩ := h.pages; ⟨pl, hp.turned tt h2, he⟩ }
theorem SpIs.lt (h : SpIs w sp pm sb P) : sp < w.heap.size ∧ pm < w.heap.size := by
  obtain ⟨pl, hp, _⟩ := h.pages
  exact ⟨lt_of_cell h.c0, hp.lt⟩
theorem SpIs.mapped (h : SpIs w sp pm sb P) (tt : Turn (fun k => k = pm) w w') {pl : List (Int × Pg)} (hp : MapIs w' pm (.int .i64) encI encPg pl) (he : ∀ i, mget pl i = P' i)
    (hd : ∀ i p, P' i = some p → 0 ≤ i ∧ i < 64) (ho : ∀ i p, P' i = some p → 1 ≤ p.1 ∧ p.1 ≤ 3 ∧ -1 ≤ p.2 ∧ p.2 < 256) : SpIs w' sp pm sb P' :=
  ⟨(tt.cell (a := ⟨sp, 0, none⟩) (lt_of_cell h.c0) h.ne).trans h.c0, (tt.cell (a := ⟨sp, 1, none⟩) (lt_of_cell h.c1) h.ne).trans h.c1, ⟨pl, hp, he⟩, h.ne, hd, ho⟩
def noPg : Pg := (0, 0)
theorem zeroPg (w : World) : (zeroValue 143).run Tryz.prog w = .ok (encPg noPg) w := by kernel_rfl
theorem look_page (h : SpIs w sp pm sb P) (i : Int) : (Instr.lookup 135 (.map (some pm)) (.int .i64 i) false).run Tryz.prog w = .ok (encPg ((P i).getD noPg)) w := by
  obtain ⟨pl, hp, he⟩ := h.pages
  have h1 := hp.run_lookup keyI Tryz.underlying135 Tryz.underlying3 (zeroPg w) i false
  refine h1.trans ?_
  rw [he]
  cases P i <;> rfl
theorem lookok_page (h : SpIs w sp pm sb P) (i : Int) : (Instr.lookup 135 (.map (some pm)) (.int .i64 i) true).run Tryz.prog w = .ok (.tuple #[encPg ((P i).getD noPg), .bool (P i).isSome]) w := by
  obtain ⟨pl, hp, he⟩ := h.pages
  have h1 := hp.run_lookup keyI Tryz.underlying135 Tryz.underlying3 (zeroPg w) i true
  refine h1.trans ?_
  rw [he]
  cases P i <;> rfl

theorem ret_bool' {a b : Bool} (h : b = a) : Ending.returned (.bool a) = .returned (.bool b) := by rw [h]
/-- Which pages may be. -/
def RightP (at' k : Int) : Prop := 0 ≤ at' ∧ 1 ≤ k ∧ k ≤ 64 ∧ at' ≤ 64 - k
instance (a k : Int) : Decidable (RightP a k) := by unfold RightP; infer_instance
set_option maxRecDepth 100000 in
theorem vright_is (at' k : Int) (w : World) : Calls Tryz.prog 57 #[.int .i64 at', .int .i64 k] w fun e w' => e = .returned (.bool (decide (RightP at' k))) ∧ w = w' := by
  by_cases h0 : 0 ≤ at'
  · by_cases h1 : 1 ≤ k
    · by_cases h2 : k ≤ 64
      · have hw : IntKind.i64.wrap (64 - k) = 64 - k := IntWalk.i64_in _ (by omega)
        by_cases h3 : at' ≤ 64 - k
        · go_enter Tryz.func57, Tryz.ntmps57
          go_wp2_with fail
          go_ret
          exact ⟨ret_bool' (decide_eq_true ⟨h0, h1, h2, h3⟩), rfl⟩
        · go_enter Tryz.func57, Tryz.ntmps57
          go_wp2_with fail
          go_ret
          exact ⟨ret_bool' (decide_eq_false (by unfold RightP; omega)), rfl⟩
      · go_enter Tryz.func57, Tryz.ntmps57
        go_wp2_with fail
        go_ret
        exact ⟨ret_bool' (decide_eq_false (by unfold RightP; omega)), rfl⟩
    · go_enter Tryz.func57, Tryz.ntmps57
      go_wp2_with fail
      go_ret
      exact ⟨ret_bool' (decide_eq_false (by unfold RightP; omega)), rfl⟩
  · go_enter Tryz.func57, Tryz.ntmps57
    go_wp2_with fail
    go_ret
    exact ⟨ret_bool' (decide_eq_false (by unfold RightP; omega)), rfl⟩
end
end Go.Proofs.YtiohpmcedfbcgabGreatDoor
