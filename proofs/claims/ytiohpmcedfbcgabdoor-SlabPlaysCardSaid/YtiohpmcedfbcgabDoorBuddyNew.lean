/- Package buddy: New makes a good pool. Conditions: each theorem's own premises. -/
import Derived.Test.YtiohpmcedfbcgabDoorBuddyAlloc
namespace Go.Proofs.YtiohpmcedfbcgabDoor
open Go.RowKit
set_option linter.unusedVariables false

/-- What has been laid up to B. -/
structure Part (n B : Int) (fr : Fr) : Prop where
  okF : ∀ k b, k < 7 → b ∈ fr k → Ok n k b ∧ b + sz k ≤ B
  nd : ∀ k, k < 7 → (fr k).Nodup
  ff : ∀ k b j c, k < 7 → j < 7 → b ∈ fr k → c ∈ fr j → Ov k b j c → k = j ∧ b = c
  cov : ∀ f, 0 ≤ f → f < B → ∃ k b, k < 7 ∧ b ∈ fr k ∧ b ≤ f ∧ f < b + sz k
  top : ∀ k b, k < 6 → b ∈ fr k → b % sz (k + 1) = 0 → n < b + sz (k + 1)

theorem Part.start (n : Int) : Part n 0 (fun _ => []) := ⟨fun _ _ _ h => by simp at h, fun _ _ => List.nodup_nil, fun _ _ _ _ _ _ h => by simp at h, fun _ _ _ => by omega, fun _ _ _ h => by simp at h⟩
theorem Part.step {n B : Int} {fr : Fr} (h : Part n B fr) {k : Nat} (hk : k < 7) (hB : 0 ≤ B) (ha : B % sz k = 0) (hn : B + sz k ≤ n) (ht : k = 6 ∨ ¬ (B % sz (k + 1) = 0 ∧ B + sz (k + 1) ≤ n)) : Part n (B + sz k) (addTo fr k B) where
  okF j c hj hc := by
    have hp := sz_pos k
    rcases mem_add.1 hc with c1 | ⟨rfl, rfl⟩
    · exact ⟨(h.okF j c hj c1).1, by have := (h.okF j c hj c1).2; omega⟩
    · exact ⟨⟨hj, hB, ha, hn⟩, Int.le_refl _⟩
  nd j hj := by
    unfold addTo
    split
    · rename_i e
      subst e
      rw [List.nodup_append]
      refine ⟨h.nd j hj, by simp, ?_⟩
      intro x hx y hy e
      simp only [List.mem_singleton] at hy
      subst hy
      subst e
      have := (h.okF j x hj hx).2
      have := sz_pos j
      omega
    · exact h.nd j hj
  ff i c j d hi hj hc hd ho := by
    have hpi := sz_pos i
    have hpj := sz_pos j
    rcases mem_add.1 hc with c1 | ⟨rfl, rfl⟩
    · rcases mem_add.1 hd with d1 | ⟨rfl, rfl⟩
      · exact h.ff i c j d hi hj c1 d1 ho
      · have := (h.okF i c hi c1).2; have := ho.2; omega
    · rcases mem_add.1 hd with d1 | ⟨rfl, rfl⟩
      · have := (h.okF j d hj d1).2; have := ho.1; omega
      · exact ⟨rfl, rfl⟩
  cov f h0 h1 := by
    by_cases hf : f < B
    · obtain ⟨j, c, hj, hc, r⟩ := h.cov f h0 hf
      exact ⟨j, c, hj, mem_add.2 (.inl hc), r⟩
    · exact ⟨k, B, hk, mem_add.2 (.inr ⟨rfl, rfl⟩), by omega, h1⟩
  top j c hj hc he := by
    rcases mem_add.1 hc with c1 | ⟨rfl, rfl⟩
    · exact h.top j c hj c1 he
    · rcases ht with ht | ht
      · omega
      · have := sz_succ j; simp only [not_and] at ht; have := ht he; omega
theorem Part.len {n B : Int} {fr : Fr} (h : Part n B fr) (hn : n ≤ 256) (k : Nat) (hk : k < 7) : (fr k).length ≤ 256 := by
  refine len_le_nat 256 _ (h.nd k hk) (fun x hx => ?_)
  have := (h.okF k x hk hx).1
  have hp := sz_pos k
  obtain ⟨_, a, _, b⟩ := this
  exact ⟨a, by omega⟩
theorem wrap_2sz : ∀ k : Fin 7, wrap64 (2 * 2 ^ k.val) = sz (k.val + 1) := by decide +kernel
theorem wrap_sz64 : ∀ k : Fin 7, wrap64 (2 ^ k.val) = sz k.val := by decide +kernel
theorem Part.good {n : Int} {fr : Fr} (h : Part n n fr) : Good n fr [] where
  okF k b hk hb := (h.okF k b hk hb).1
  okT t ht := by simp at ht
  nd := h.nd
  ff := h.ff
  tt := List.Pairwise.nil
  ft _ _ _ _ t ht := by simp at ht
  cov f h0 h1 := .inl (h.cov f h0 h1)
  nb k b hk ha hb hm := by
    have h1 := h.top k b hk hb ha
    have h2 := (h.okF k _ (by omega) hm).2
    have := sz_succ k
    omega

theorem new_range (n : Int) (w : World) (h : n < 1 ∨ 256 < n) :
    Calls Tryd.prog 14 #[.int .i64 n] w fun e w' => e = .returned (.tuple #[.pointer none, .iface 40 (.int .i64 2)]) ∧ w = w' := by
  rcases h with h | h
  · go_enter Tryd.func14, Tryd.ntmps14
    go_wp2_with fail
    go_ret2
    exact ⟨rfl, rfl⟩
  · have h' : ¬ n < 1 := by omega
    go_enter Tryd.func14, Tryd.ntmps14
    go_wp2_with fail
    go_ret2
    exact ⟨rfl, rfl⟩

def NewPool (n : Int) (w : World) (e : Ending) (w' : World) : Prop :=
  ∃ p mb vs fr, e = .returned (.tuple #[.pointer (some ⟨p, 0, none⟩), .nilIface]) ∧ PoolAt w' p mb vs ⟨n, fr, []⟩ ∧ Good n fr [] ∧ Turn (fun _ => False) w w' ∧ ∀ k, Foot p mb vs k → w.heap.size ≤ k

theorem PoolAt.fresh (n : Int) (w : World) : PoolAt ((w.alloc (.map #[] 0)).alloc (.cells #[.int .i64 n, .slice none 0 0, .slice none 0 0, .slice none 0 0, .slice none 0 0, .slice none 0 0, .slice none 0 0, .slice none 0 0, .map (some w.heap.size)] 146)) (w.heap.size + 1) w.heap.size (fun _ => .slice none 0 0) ⟨n, fun _ => [], []⟩ := by
  have hz : (w.alloc (.map #[] 0)).heap.size = w.heap.size + 1 := World.size_alloc _ _
  have hB : ∀ j, ((w.alloc (.map #[] 0)).alloc (.cells #[.int .i64 n, .slice none 0 0, .slice none 0 0, .slice none 0 0, .slice none 0 0, .slice none 0 0, .slice none 0 0, .slice none 0 0, .map (some w.heap.size)] 146)).cell? ⟨w.heap.size + 1, j, none⟩ = (#[.int .i64 n, .slice none 0 0, .slice none 0 0, .slice none 0 0, .slice none 0 0, .slice none 0 0, .slice none 0 0, .slice none 0 0, .map (some w.heap.size)] : Array Value)[j]? := fun j => by rw [← hz]; exact World.cell?_alloc_new _ _ _ _
  refine ⟨hB 0, fun k hk => ?_, fun k hk => World.ownsRow_nil _ _ _ _, hB 8, ?_, fun i => ?_, fun _ _ _ _ _ g h => (by cases h), (by omega), fun _ _ g h => (by cases h)⟩
  · rw [hB]
    match k, hk with
    | 0, _ => rfl
    | 1, _ => rfl
    | 2, _ => rfl
    | 3, _ => rfl
    | 4, _ => rfl
    | 5, _ => rfl
    | 6, _ => rfl
  · exact (MapIs.made w).turned ((Turn.refl (fun _ => False) _).alloc _) id
  · rw [← hz]; simp

set_option maxHeartbeats 4000000 in
theorem new_any (n : Int) (w : World) (h1 : 1 ≤ n) (h2 : n ≤ 256) : Calls Tryd.prog 14 #[.int .i64 n] w (NewPool n w) := by
  have hmm := @run_makeMap Tryd.prog
  go_enter Tryd.func14, Tryd.ntmps14
  go_wp2_with fail
  have HP0 := hid (PoolAt.fresh n w)
  have HT0 : Hid (Turn (fun _ => False) w ((w.alloc (.map #[] 0)).alloc (.cells #[.int .i64 n, .slice none 0 0, .slice none 0 0, .slice none 0 0, .slice none 0 0, .slice none 0 0, .slice none 0 0, .slice none 0 0, .map (some w.heap.size)] 146))) := hid (((Turn.refl _ _).alloc _).alloc _)
  generalize (w.alloc (.map #[] 0)).alloc (.cells #[.int .i64 n, .slice none 0 0, .slice none 0 0, .slice none 0 0, .slice none 0 0, .slice none 0 0, .slice none 0 0, .slice none 0 0, .map (some w.heap.size)] 146) = W0 at *
  obtain ⟨p, hp⟩ : ∃ p, w.heap.size + 1 = p := ⟨_, rfl⟩
  rw [hp] at HP0
  rw [hp]
  obtain ⟨mb, hmb⟩ : ∃ mb, w.heap.size = mb := ⟨_, rfl⟩
  rw [hmb] at HP0
  rw [hmb]
  have HPM := hid (And.intro hp hmb)
  clear hp hmb
  go_loopw [5, 6] (fun b' _ wr => ∃ (B : Int) (fr : Fr), b' = .int .i64 B ∧ 0 ≤ B ∧ B ≤ n ∧ Hid (Part n B fr) ∧ Hid True ∧ Hid (PoolAfter p mb (fun _ => .slice none 0 0) W0 wr ⟨n, fr, []⟩)) (fun b' _ _ => (n - intOf b').toNat)
  case atStart => exact ⟨0, _, rfl, Int.le_refl _, by omega, hid (Part.start n), hid trivial, hid (PoolAfter.refl HP0.out)⟩
  case round =>
    obtain ⟨B, fr, rfl, hB0, hBn, hPart, _, hP⟩ := hrel
    by_cases hlt : B < n
    · go_wp2_with fail
      obtain ⟨wo, rfl⟩ : ∃ wo : World, wo = wr := ⟨_, rfl⟩
      go_loop [6] (fun k' => ∃ k : Nat, k' = .int .i64 k ∧ k ≤ 6 ∧ Hid (B % sz k = 0 ∧ B + sz k ≤ n)) (fun k' => (7 - intOf k').toNat)
      case atStart => exact ⟨0, rfl, by omega, hid ⟨by simp [sz, Int.emod_one], by simp [sz]; omega⟩⟩
      case round =>
        obtain ⟨k, rfl, hk6, hk⟩ := hrel
        have hkn : B + sz k ≤ n := hk.out.2
        have hsp := sz_pos k
        have hsp1 := sz_pos (k + 1)
        have hsl1 : sz k ≤ 64 := sz_le hk6
        have hsu := hid (sz_succ k)
        have hx := wrap_2sz ⟨k, by omega⟩
        have hx1 := wrap_sz64 ⟨k, by omega⟩
        simp only at hx hx1
        have hS : sz (k + 1) ≤ 128 := by have := hsu.out; omega
        obtain ⟨vs1, hpx, tx, gx⟩ := hP.out
        have hl := hPart.out.len (by omega) k (by omega)
        have HPx := hid hpx
        have HTx := hid tx
        have HGx := hid gx
        clear hpx tx gx
        by_cases hc : k < 6 ∧ B % sz (k + 1) = 0 ∧ B + sz (k + 1) ≤ n
        · obtain ⟨hk5, hm, hle⟩ := hc
          have hk5' : (k : Int) < 6 := by omega
          have hmb : (B % sz (k + 1) == 0) = true := beq_iff_eq.2 hm
          have HM := hid hm
          clear hm
          go_wp2_with fail
          go_round
          case rel => exact ⟨k + 1, by go_num, by omega, hid ⟨HM.out, hle⟩⟩
          case measure => simp [intOf]; omega
        · have htop : Hid (k = 6 ∨ ¬ (B % sz (k + 1) = 0 ∧ B + sz (k + 1) ≤ n)) := hid (by
            by_cases e : k = 6
            · exact .inl e
            · exact .inr (fun h => hc ⟨by omega, h⟩))
          have hways : (¬ (k : Int) < 6) ∨ ((k : Int) < 6 ∧ (B % sz (k + 1) == 0) = false) ∨ ((k : Int) < 6 ∧ (B % sz (k + 1) == 0) = true ∧ ¬ B + sz (k + 1) ≤ n) := by
            by_cases e : (k : Int) < 6
            · by_cases e2 : B % sz (k + 1) = 0
              · exact .inr (.inr ⟨e, beq_iff_eq.2 e2, fun h => hc ⟨by omega, e2, h⟩⟩)
              · exact .inr (.inl ⟨e, beq_eq_false_iff_ne.2 e2⟩)
            · exact .inl e
          clear hc
          rcases hways with e | ⟨e, e2⟩ | ⟨e, e2, e3⟩
          · go_wp2_with fail
            have HL := hid (HPx.out.lays k (by omega) B)
            have hltp := HPx.out.lt
            have hfz := HPx.out.fz (1 + k)
            have hk7 : (k : Int) < 7 := by omega
            have hcf := HPx.out.cf k (by omega)
            go_region_law (refine step_append_int rfl _ _ rfl (vs1 k) (fr k) rfl HL.out.1 wo.heap.size 1 B rfl HL.out.2.1 (by omega) ?_; intro g3 z3 w3 hi3 t3 ho3; obtain ⟨hc3, hf3⟩ := HL.out.2.2 w3 t3; have HI3 := hid hi3; have HT3 := hid t3; have HO3 := hid ho3; clear hi3 t3 ho3)
            all_goals
              go_wp2_with fail
              go_roundw
              case rel => exact ⟨B + sz k, _, rfl, by omega, hkn, hid (hPart.out.step (by omega) hB0 hk.out.1 hkn htop.out), hid trivial, hid (PoolAfter.trans HTx.out HGx.out (HPx.out.appended k (by omega) (c := B) HT3.out HI3.out HO3.out))⟩
              case measure => first | (simp [intOf]; done) | (simp [intOf]; omega)
          · go_wp2_with fail
            have HL := hid (HPx.out.lays k (by omega) B)
            have hltp := HPx.out.lt
            have hfz := HPx.out.fz (1 + k)
            have hk7 : (k : Int) < 7 := by omega
            have hcf := HPx.out.cf k (by omega)
            go_region_law (refine step_append_int rfl _ _ rfl (vs1 k) (fr k) rfl HL.out.1 wo.heap.size 1 B rfl HL.out.2.1 (by omega) ?_; intro g3 z3 w3 hi3 t3 ho3; obtain ⟨hc3, hf3⟩ := HL.out.2.2 w3 t3; have HI3 := hid hi3; have HT3 := hid t3; have HO3 := hid ho3; clear hi3 t3 ho3)
            all_goals
              go_wp2_with fail
              go_roundw
              case rel => exact ⟨B + sz k, _, rfl, by omega, hkn, hid (hPart.out.step (by omega) hB0 hk.out.1 hkn htop.out), hid trivial, hid (PoolAfter.trans HTx.out HGx.out (HPx.out.appended k (by omega) (c := B) HT3.out HI3.out HO3.out))⟩
              case measure => first | (simp [intOf]; done) | (simp [intOf]; omega)
          · go_wp2_with fail
            have HL := hid (HPx.out.lays k (by omega) B)
            have hltp := HPx.out.lt
            have hfz := HPx.out.fz (1 + k)
            have hk7 : (k : Int) < 7 := by omega
            have hcf := HPx.out.cf k (by omega)
            go_region_law (refine step_append_int rfl _ _ rfl (vs1 k) (fr k) rfl HL.out.1 wo.heap.size 1 B rfl HL.out.2.1 (by omega) ?_; intro g3 z3 w3 hi3 t3 ho3; obtain ⟨hc3, hf3⟩ := HL.out.2.2 w3 t3; have HI3 := hid hi3; have HT3 := hid t3; have HO3 := hid ho3; clear hi3 t3 ho3)
            all_goals
              go_wp2_with fail
              go_roundw
              case rel => exact ⟨B + sz k, _, rfl, by omega, hkn, hid (hPart.out.step (by omega) hB0 hk.out.1 hkn htop.out), hid trivial, hid (PoolAfter.trans HTx.out HGx.out (HPx.out.appended k (by omega) (c := B) HT3.out HI3.out HO3.out))⟩
              case measure => first | (simp [intOf]; done) | (simp [intOf]; omega)
    · have hBe : B = n := by omega
      obtain ⟨vs1, hpx, tx, gx⟩ := hP.out
      have HPx := hid hpx
      have HTx := hid tx
      have HGx := hid gx
      clear hpx tx gx
      go_wp2_with fail
      go_ret2
      have hp2 := hPart.out
      rw [hBe] at hp2
      refine ⟨p, mb, vs1, fr, rfl, HPx.out, hp2.good, HT0.out.trans' HTx.out (fun k hk hf => ?_), fun k hk => ?_⟩
      · rcases hf with e | e | ⟨j, _, e⟩
        · have := HPM.out.1; omega
        · have := HPM.out.2; omega
        · cases e
      · rcases HGx.out k hk with hf | hf
        · rcases hf with e | e | ⟨j, _, e⟩
          · have := HPM.out.1; omega
          · have := HPM.out.2; omega
          · cases e
        · have := HT0.out.size; omega
end Go.Proofs.YtiohpmcedfbcgabDoor
