/- Package proc: Fork. Conditions: each theorem's own premises. -/
import Derived.Test.YtiohpmcedfbcgabDoorProcSig
import Derived.Deep.RegionLaw
namespace Go.Proofs.YtiohpmcedfbcgabDoor
open Go.RowKit
set_option linter.unusedVariables false

section
variable {κ β : Type} [DecidableEq κ] {d : TypeDesc} {enc : κ → Value} {val : β → Value} {w : World} {m : List (κ × β)} {P : Program}
variable {ops : Array Oper} {o : Oper} {a : Act} {K : Act → World → Prop} {Q : Exit → Act → World → Prop} {E : Prop}
/-- A store into a map as one step of a region that draws its order. -/
theorem step_mapput (hg : o.guard = none) (mo x vo : Operand) (T kt et : TypeId) (hop : o.op = .mapUpdate T mo x vo) (hT : P.underlying T = some (.map kt et)) (hd : P.underlying kt = some d) (KE : KeyEnc d enc)
    (b : Nat) (hm : a.eval mo = .map (some b)) (h : MapIs w b d enc val m) (k : κ) (hx : a.eval x = enc k) (v : β) (hv : a.eval vo = val v)
    (hK : ∀ w', MapIs w' b d enc val (mput m k v) → Turn (fun j => j = b) w w' → K (a.put o.dst undef) w') :
    if Region.wanted o (yielded ops a.tmps) = true then Oper.wp P o a w K Q else E := by
  have hw : Region.wanted o (yielded ops a.tmps) = true := by simp [Region.wanted, hg]
  rw [if_pos hw]
  obtain ⟨w', hrun, r1, r2⟩ := h.run_update KE hT hd k v
  unfold Oper.wp
  simp [execOp, hop, hm, hx, hv, hrun, Result.andThen]
  exact hK w' r1 r2
end

theorem keys_fill : ∀ (k : Nat) (l : List (Int × Nat)), MNodup l → (∀ i : Int, 1 ≤ i → i ≤ k → (mget l i).isSome = true) → k ≤ l.length
  | 0, l, _, _ => Nat.zero_le _
  | k + 1, l, hn, h => by
    obtain ⟨v, hv⟩ := Option.isSome_iff_exists.1 (h ((k + 1 : Nat) : Int) (by omega) (by omega))
    have h1 := mdel_length hn hv
    have h2 := keys_fill k (mdel l ((k + 1 : Nat) : Int)) (mdel_nodup hn _) (fun i h1 h2 => by
      rw [mget_mdel, if_neg (by omega)]
      exact h i h1 (by omega))
    omega
theorem mput_new {l : List (Int × Nat)} {k : Int} {b : Nat} (h : mget l k = none) : mput l k b = l ++ [(k, b)] := by
  unfold mput
  rw [if_neg (by rw [h]; simp)]

def Forked (tb mb : Nat) (l : List (Int × Nat)) (f : Nat → Pr) (pid : Int) (b : Nat) (w : World) (e : Ending) (w' : World) : Prop :=
  ∃ (k nb : Nat), 1 ≤ k ∧ k ≤ 24 ∧ mget l (k : Int) = none ∧ (∀ i : Int, 1 ≤ i → i < k → (mget l i).isSome = true) ∧ e = .returned (.tuple #[.int .i64 k, .nilIface]) ∧ w.heap.size ≤ nb ∧
    TabIs w' tb mb (l ++ [((k : Int), nb)]) (updP f nb ⟨pid, 1, 0, 0, (f b).ignores⟩) ∧ Turn (fun j => j = mb) w w'

theorem fork_missing {w : World} {tb mb : Nat} {l : List (Int × Nat)} {f : Nat → Pr} (h : TabIs w tb mb l f) (pid : Int) (hr : ¬ RunsIn l f pid) :
    Calls Tryd.prog 32 #[.pointer (some ⟨tb, 0, none⟩), .int .i64 pid] w fun e w' => e = .returned (.tuple #[.int .i64 0, .iface 40 (.int .i64 7)]) ∧ w = w' := by
  have HR := hid (runs_no h pid hr)
  clear h hr
  go_enter Tryd.func32, Tryd.ntmps32
  go_wp2_with fail
  refine HR.out.mono ?_
  rintro e w1 ⟨rfl, rfl⟩
  go_wp2_with fail
  go_ret2
  exact ⟨rfl, rfl⟩
theorem fork_full {w : World} {tb mb : Nat} {l : List (Int × Nat)} {f : Nat → Pr} (h : TabIs w tb mb l f) (pid : Int) (hr : RunsIn l f pid) (hl : 24 ≤ l.length) :
    Calls Tryd.prog 32 #[.pointer (some ⟨tb, 0, none⟩), .int .i64 pid] w fun e w' => e = .returned (.tuple #[.int .i64 0, .iface 40 (.int .i64 12)]) ∧ w = w' := by
  have HR := hid (runs_yes h pid hr)
  have HMp := hid h.mp
  have hh := h.hdr
  have hl' : (24 : Int) ≤ l.length := by omega
  clear h hr
  go_enter Tryd.func32, Tryd.ntmps32
  go_wp2_with fail
  refine HR.out.mono ?_
  rintro e w1 ⟨rfl, rfl⟩
  go_wp2_with (at_len; refine wpList_maplen rfl _ 167 3 164 rfl Tryd.underlying167 mb rfl HMp.out ?_)
  go_ret2
  exact ⟨rfl, rfl⟩

set_option maxRecDepth 100000 in
theorem fork_runs {w : World} {tb mb : Nat} {l : List (Int × Nat)} {f : Nat → Pr} (h : TabIs w tb mb l f) (pid : Int) (b : Nat) (hr : RunsIn l f pid) (hb : mget l pid = some b) (hl : l.length < 24) :
    Calls Tryd.prog 32 #[.pointer (some ⟨tb, 0, none⟩), .int .i64 pid] w (Forked tb mb l f pid b w) := by
  have H := hid h
  have hp := h.pr _ (mem_of_mget hb)
  simp only at hp
  have HR := hid (runs_yes h pid hr)
  have HMp := hid h.mp
  have hh := h.hdr
  have lk := lookup_pid h.mp pid
  unfold whereP at lk
  rw [hb] at lk
  simp only [Option.elim, ptr] at lk
  have c4 := hp.c4
  have hl' : ¬ (24 : Int) ≤ l.length := by omega
  have HLk := hid (fun k : Nat => lookup_pid h.mp (k : Int))
  have HLd : Hid ((Instr.lookup 167 (.map (some mb)) (.int .i64 pid) false).run Tryd.prog w.drew = .ok (.pointer (some ⟨b, 0, none⟩)) w.drew) := hid (by
    have := lookup_pid (w := w.drew) (h.mp.turned ((Turn.refl (fun _ => False) w).drew) id) pid
    unfold whereP at this
    rw [hb] at this
    exact this)
  clear h hr hp
  go_enter Tryd.func32, Tryd.ntmps32
  go_wp2_with fail
  refine HR.out.mono ?_
  rintro e w1 ⟨rfl, rfl⟩
  go_wp2_with (at_len; refine wpList_maplen rfl _ 167 3 164 rfl Tryd.underlying167 mb rfl HMp.out ?_)
  go_loopg [7] 24 (fun g kv wr => ∃ k : Nat, 1 ≤ k ∧ k + g = 25 ∧ kv = .int .i64 k ∧ Hid (∀ i : Int, 1 ≤ i → i < k → (mget l i).isSome = true) ∧ wr = w)
  case atStart => exact ⟨1, by omega, by omega, rfl, hid (fun i h1 h2 => absurd h2 (by omega)), rfl⟩
  case round =>
    obtain ⟨k, hk1, hkg, rfl, hks, rfl⟩ := hrel
    have lk2 := HLk.out k
    unfold whereP at lk2
    cases e : mget l (k : Int) with
    | some b2 =>
      rw [e] at lk2
      simp only [Option.elim, ptr] at lk2
      have HE := hid e
      clear e
      have hall : ∀ i : Int, 1 ≤ i → i ≤ k → (mget l i).isSome = true := fun i h1 h2 => by
        by_cases e : i = k
        · rw [e, HE.out]; rfl
        · exact hks.out i h1 (by omega)
      have hle := keys_fill k l HMp.out.nodup hall
      have HAll := hid hall
      clear hall
      go_wp2_with fail
      go_roundg (gk - 1)
      case measure => omega
      case rel => exact ⟨k + 1, by omega, by omega, by go_num, hid (fun i h1 h2 => HAll.out i h1 (by omega)), rfl⟩
    | none =>
      rw [e] at lk2
      simp only [Option.elim] at lk2
      have HE := hid e
      clear e
      have hle : k - 1 ≤ l.length := keys_fill (k - 1) l HMp.out.nodup (fun i h1 h2 => hks.out i h1 (by omega))
      have T1 : Turn (fun _ => False) wr (wr.alloc (.cells #[.int .i64 pid, .int .i64 1, .int .i64 0, .int .i64 0, .int .i64 (f b).ignores] 166)).drew := ((Turn.refl _ _).alloc _).drew
      have HT1 := hid T1
      have HM2 := hid (HMp.out.turned T1 id)
      have HP2 : Hid (PrAt (wr.alloc (.cells #[.int .i64 pid, .int .i64 1, .int .i64 0, .int .i64 0, .int .i64 (f b).ignores] 166)).drew wr.heap.size ⟨pid, 1, 0, 0, (f b).ignores⟩) := hid (PrAt.drew ⟨World.cell?_alloc_new _ _ _ _, World.cell?_alloc_new _ _ _ _, World.cell?_alloc_new _ _ _ _, World.cell?_alloc_new _ _ _ _, World.cell?_alloc_new _ _ _ _, fun i => by simp⟩)
      clear T1
      go_wp2_with fail
      have lkd := HLd.out
      obtain ⟨w3, hrun, hm3, t3⟩ := HM2.out.run_update keyI Tryd.underlying167 Tryd.underlying3 (k : Int) wr.heap.size
      have HM3 := hid hm3
      have HT3 := hid t3
      clear hm3 t3
      simp only [encI] at hrun
      have htl : tb < wr.heap.size := lt_of_cell hh
      go_region
      all_goals go_wp2_with fail
      all_goals go_ret2
      all_goals
        have hmlt := HMp.out.lt
        have hnl : ∀ t ∈ l, t.2 < wr.heap.size := fun t ht => (H.out.pr t ht).lt
        have T13 := (HT1.out.mono (S' := fun j => j = mb) fun _ _ h => h.elim).trans HT3.out
        refine ⟨k, wr.heap.size, hk1, by omega, HE.out, hks.out, rfl, Nat.le_refl _, ⟨?_, ?_, fun t ht => ?_, ?_, fun t ht => ?_, H.out.ne⟩, T13⟩
        · exact (T13.cell (a := ⟨tb, 0, none⟩) (lt_of_cell H.out.hdr) (by have := H.out.ne; exact this)).trans H.out.hdr
        · rw [← mput_new HE.out]; exact HM3.out
        · rcases List.mem_append.1 ht with h1 | h1
          · rw [updP_other _ _ (by have := hnl t h1; omega)]
            exact (H.out.pr t h1).turned T13 (H.out.ap t h1).2
          · rw [List.mem_singleton.1 h1, updP_same]
            exact HP2.out.turned HT3.out (by omega)
        · rw [List.map_append, List.nodup_append]
          refine ⟨H.out.inj, by simp, fun x hx y hy e => ?_⟩
          obtain ⟨t, ht, rfl⟩ := List.mem_map.1 hx
          have h1 := hnl t ht
          simp at hy
          omega
        · rcases List.mem_append.1 ht with h1 | h1
          · exact H.out.ap t h1
          · rw [List.mem_singleton.1 h1]
            have h2 := lt_of_cell H.out.hdr
            exact ⟨by simp only at h2 ⊢; omega, by simp only; omega⟩
end Go.Proofs.YtiohpmcedfbcgabDoor
