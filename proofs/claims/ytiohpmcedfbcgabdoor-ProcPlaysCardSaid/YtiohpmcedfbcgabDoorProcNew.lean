/- Package proc: New, Kill, Ignore, Take. Conditions: each theorem's own premises. -/
import Derived.Test.YtiohpmcedfbcgabDoorProc
import Derived.Deep.LoopGhost
import Derived.Deep.DeepCutAuto
namespace Go.Proofs.YtiohpmcedfbcgabDoor
open Go.RowKit Go.MapKept
set_option linter.unusedVariables false

section
variable {κ β : Type} [DecidableEq κ] {d : TypeDesc} {enc : κ → Value} {val : β → Value} {w : World} {m : List (κ × β)} {P : Program}
variable {ops : Array Oper} {rest : List Oper} {o : Oper} {a : Act} {Q : Exit → Act → World → Prop}
theorem wpList_insput (hg : o.guard = none) (mo x vo : Operand) (T kt et : TypeId) (hop : o.op = .insert T mo x vo) (hT : P.underlying T = some (.map kt et)) (hd : P.underlying kt = some d) (K : KeyEnc d enc)
    (b : Nat) (hm : a.eval mo = .map (some b)) (h : MapIs w b d enc val m) (k : κ) (hx : a.eval x = enc k) (v : β) (hv : a.eval vo = val v)
    (hK : ∀ w', MapIs w' b d enc val (mput m k v) → Turn (fun j => j = b) w w' → wpList P ops Q rest (a.put o.dst undef) w') : wpList P ops Q (o :: rest) a w := by
  refine wpList_plain hg fun K' hK' => ?_
  obtain ⟨w', hrun, r1, r2⟩ := h.run_update K hT hd k v
  unfold Oper.wp
  simp [execOp, hop, hm, hx, hv, hrun, Result.andThen]
  exact hK' _ _ (hK w' r1 r2)
end

def init : Pr := ⟨0, 1, 0, 0, 0⟩
def NewTab (w : World) (e : Ending) (w' : World) : Prop :=
  ∃ tb mb b, e = .returned (.pointer (some ⟨tb, 0, none⟩)) ∧ TabIs w' tb mb [((1 : Int), b)] (fun _ => init) ∧ Turn (fun _ => False) w w' ∧ ∀ k, TFoot tb mb [((1 : Int), b)] k → w.heap.size ≤ k

set_option maxHeartbeats 2000000 in
theorem proc_new (w : World) : Calls Tryd.prog 30 #[] w (NewTab w) := by
  have hmm := @run_makeMap Tryd.prog
  have HM : Hid (MapIs ((w.alloc (.map #[] 0)).alloc (.cells #[.int .i64 0, .int .i64 1, .int .i64 0, .int .i64 0, .int .i64 0] 166)) w.heap.size (.int .i64) encI (fun b : Nat => Value.pointer (some ⟨b, 0, none⟩)) ([] : List (Int × Nat))) := hid ((MapIs.made w).turned ((Turn.refl (fun _ => False) _).alloc _) id)
  go_enter Tryd.func30, Tryd.ntmps30
  go_wp2_with (refine wpList_insput rfl _ _ _ 167 3 164 rfl Tryd.underlying167 Tryd.underlying3 keyI w.heap.size rfl HM.out 1 rfl (w.heap.size + 1) rfl ?_; intro w1 hm1 t1; have HM1 := hid hm1; have HT1 := hid t1; clear hm1 t1)
  go_ret
  have hsz : (w.alloc (.map #[] 0)).heap.size = w.heap.size + 1 := World.size_alloc _ _
  have hP : PrAt ((w.alloc (.map #[] 0)).alloc (.cells #[.int .i64 0, .int .i64 1, .int .i64 0, .int .i64 0, .int .i64 0] 166)) (w.heap.size + 1) init := by
    rw [← hsz]
    exact ⟨World.cell?_alloc_new _ _ _ _, World.cell?_alloc_new _ _ _ _, World.cell?_alloc_new _ _ _ _, World.cell?_alloc_new _ _ _ _, World.cell?_alloc_new _ _ _ _, fun i => by simp⟩
  have T2 : Turn (fun _ => False) w1 (w1.alloc (.cells #[.map (some w.heap.size)] 169)) := (Turn.refl _ _).alloc _
  have hs1 := HT1.out.size
  simp only [World.size_alloc] at hs1
  refine ⟨w1.heap.size, w.heap.size, w.heap.size + 1, rfl, ⟨World.cell?_alloc_new _ _ _ _, HM1.out.turned T2 id, fun t ht => ?_, by simp, fun t ht => ?_, by omega⟩, ?_, fun k hk => ?_⟩
  · rw [List.mem_singleton.1 ht]
    exact (hP.turned HT1.out (by omega)).turned T2 id
  · rw [List.mem_singleton.1 ht]
    exact ⟨by simp only; omega, by simp only; omega⟩
  · exact (((Turn.refl (fun _ => False) w).alloc _).alloc _).trans' (HT1.out.trans (T2.mono fun _ _ h => h.elim)) (fun k hk e => by omega)
  · rcases hk with rfl | rfl | hk
    · omega
    · omega
    · simp at hk; omega

/-! ### bits: eight signals fit into a number below 512 -/
theorem bit_test : ∀ (w : Fin 512) (s : Fin 9), (bits BinOp.and IntKind.i64 (((w.val : Nat) : Int) / 2 ^ s.val) 1 == 0) = !(w.val.testBit s.val) := by decide +kernel
theorem bit_or : ∀ (w : Fin 512) (s : Fin 9), bits BinOp.or IntKind.i64 ((w.val : Nat) : Int) (2 ^ s.val) = ((w.val ||| 2 ^ s.val : Nat) : Int) := by decide +kernel
theorem bit_andNot : ∀ (w : Fin 512) (s : Fin 9), bits BinOp.andNot IntKind.i64 ((w.val : Nat) : Int) (2 ^ s.val) = ((w.val &&& (511 ^^^ 2 ^ s.val) : Nat) : Int) := by decide +kernel
theorem wrap_bit : ∀ s : Fin 9, IntKind.i64.wrap (2 ^ s.val) = 2 ^ s.val := by decide +kernel
theorem or_lt : ∀ (w : Fin 512) (s : Fin 9), w.val ||| 2 ^ s.val < 512 := by decide +kernel
theorem andNot_lt : ∀ (w : Fin 512) (s : Fin 9), w.val &&& (511 ^^^ 2 ^ s.val) < 512 := by decide +kernel

def updP (f : Nat → Pr) (b : Nat) (p : Pr) : Nat → Pr := fun j => if j = b then p else f j
theorem updP_same (f : Nat → Pr) (b : Nat) (p : Pr) : updP f b p b = p := by simp [updP]
theorem updP_other (f : Nat → Pr) {b j : Nat} (p : Pr) (h : j ≠ b) : updP f b p j = f j := by simp [updP, h]
theorem TabIs.upd {w w' : World} {tb mb : Nat} {l : List (Int × Nat)} {f : Nat → Pr} (h : TabIs w tb mb l f) {pid : Int} {b : Nat} (hb : (pid, b) ∈ l) (t : Turn (fun k => k = b) w w') {p : Pr} (hp : PrAt w' b p) : TabIs w' tb mb l (updP f b p) := by
  obtain ⟨a1, a2⟩ := h.ap _ hb
  simp only at a1 a2
  refine ⟨(t.cell (a := ⟨tb, 0, none⟩) (lt_of_cell h.hdr) (fun e => a1 e.symm)).trans h.hdr, h.mp.turned t (fun e => a2 e.symm), fun s hs => ?_, h.inj, h.ap, h.ne⟩
  by_cases e : s.2 = b
  · rw [e, updP_same]; exact hp
  · rw [updP_other _ _ e]; exact (h.pr s hs).turned t e

theorem PrAt.setWaits {w : World} {b : Nat} {p : Pr} (h : PrAt w b p) (v : Int) : PrAt (w.setCell ⟨b, 3, none⟩ (.int .i64 v)) b { p with waits := v } := by
  refine ⟨?_, ?_, ?_, World.cell?_setCell_same _ _ _ h.c3, ?_, fun i => by rw [World.frozen?_setCell]; exact h.fz i⟩
  · rw [World.cell?_setCell_other _ _ _ _ (by intro e; injection e with _ e; omega)]; exact h.c0
  · rw [World.cell?_setCell_other _ _ _ _ (by intro e; injection e with _ e; omega)]; exact h.c1
  · rw [World.cell?_setCell_other _ _ _ _ (by intro e; injection e with _ e; omega)]; exact h.c2
  · rw [World.cell?_setCell_other _ _ _ _ (by intro e; injection e with _ e; omega)]; exact h.c4
theorem PrAt.setIgnores {w : World} {b : Nat} {p : Pr} (h : PrAt w b p) (v : Int) : PrAt (w.setCell ⟨b, 4, none⟩ (.int .i64 v)) b { p with ignores := v } := by
  refine ⟨?_, ?_, ?_, ?_, World.cell?_setCell_same _ _ _ h.c4, fun i => by rw [World.frozen?_setCell]; exact h.fz i⟩
  · rw [World.cell?_setCell_other _ _ _ _ (by intro e; injection e with _ e; omega)]; exact h.c0
  · rw [World.cell?_setCell_other _ _ _ _ (by intro e; injection e with _ e; omega)]; exact h.c1
  · rw [World.cell?_setCell_other _ _ _ _ (by intro e; injection e with _ e; omega)]; exact h.c2
  · rw [World.cell?_setCell_other _ _ _ _ (by intro e; injection e with _ e; omega)]; exact h.c3
theorem PrAt.drew {w : World} {b : Nat} {p : Pr} (h : PrAt w b p) : PrAt w.drew b p := ⟨h.c0, h.c1, h.c2, h.c3, h.c4, h.fz⟩
theorem turn_setD (w : World) (b i : Nat) (v : Value) : Turn (fun k => k = b) w (w.setCell ⟨b, i, none⟩ v).drew := Turn.drew (Turn.setCell (S := fun k => k = b) (Turn.refl _ _) ⟨b, i, none⟩ v (fun _ => rfl))

/-! ### Kill -/
def killR (W I s : Nat) : Nat := if I.testBit s then W else W ||| 2 ^ s
set_option maxRecDepth 100000 in
theorem kill_runs {w : World} {tb mb : Nat} {l : List (Int × Nat)} {f : Nat → Pr} (h : TabIs w tb mb l f) (pid : Int) (b s W I : Nat) (hr : RunsIn l f pid) (hb : mget l pid = some b) (h1 : 1 ≤ s) (h8 : s ≤ 8)
    (hW : (f b).waits = W) (hI : (f b).ignores = I) (hW9 : W < 512) (hI9 : I < 512) :
    Calls Tryd.prog 38 #[.pointer (some ⟨tb, 0, none⟩), .int .i64 pid, .int .i64 s] w fun e w' => e = .returned .nilIface ∧ TabIs w' tb mb l (updP f b { f b with waits := (killR W I s : Nat) }) ∧ Turn (fun k => k = b) w w' := by
  have hm := mem_of_mget hb
  have hp := h.pr _ hm
  simp only at hp
  have HP := hid hp
  have H := hid h
  have HM := hid hm
  have hh := h.hdr
  have lk := lookup_pid h.mp pid
  unfold whereP at lk
  rw [hb] at lk
  simp only [Option.elim, ptr] at lk
  have HR := hid (runs_yes h pid hr)
  have c3 := hp.c3
  have c4 := hp.c4
  have f3 := hp.fz 3
  rw [hW] at c3
  rw [hI] at c4
  have HS := hid (sig_yes s (by omega) (by omega))
  have bt := bit_test ⟨I, hI9⟩ ⟨s, by omega⟩
  have bo := bit_or ⟨W, hW9⟩ ⟨s, by omega⟩
  have wb := wrap_bit ⟨s, by omega⟩
  simp only at bt bo wb
  have h1' : (1 : Int) ≤ s := by omega
  have hs0 : (0 : Int) ≤ s := by omega
  have hst : ((s : Int)).toNat = s := Int.toNat_natCast s
  have HW := hid hW
  clear h hr hp hb hm hW hI
  cases hbit : I.testBit s with
  | true =>
    have hk : killR W I s = W := by unfold killR; rw [if_pos hbit]
    have HK := hid hk
    rw [hbit] at bt
    simp only [Bool.not_true] at bt
    clear hk hbit
    go_enter Tryd.func38, Tryd.ntmps38
    go_wp2_with fail
    refine (HS.out w).mono ?_
    rintro e w1 ⟨rfl, rfl⟩
    go_wp2_with fail
    refine HR.out.mono ?_
    rintro e w1 ⟨rfl, rfl⟩
    go_wp2_with fail
    all_goals go_ret
    all_goals exact ⟨rfl, H.out.upd HM.out (Turn.refl _ _) ⟨HP.out.c0, HP.out.c1, HP.out.c2, by rw [HK.out, ← HW.out]; exact HP.out.c3, HP.out.c4, HP.out.fz⟩, Turn.refl _ _⟩
  | false =>
    have hk : killR W I s = W ||| 2 ^ s := by unfold killR; rw [if_neg (by simp [hbit])]
    have HK := hid hk
    rw [hbit] at bt
    simp only [Bool.not_false] at bt
    clear hk hbit
    go_enter Tryd.func38, Tryd.ntmps38
    go_wp2_with fail
    refine (HS.out w).mono ?_
    rintro e w1 ⟨rfl, rfl⟩
    go_wp2_with fail
    refine HR.out.mono ?_
    rintro e w1 ⟨rfl, rfl⟩
    go_wp2_with fail
    go_region
    all_goals go_wp2_with fail
    all_goals go_ret
    all_goals exact ⟨rfl, H.out.upd HM.out (turn_setD _ _ _ _) (by rw [HK.out]; exact (HP.out.setWaits _).drew), turn_setD _ _ _ _⟩
end Go.Proofs.YtiohpmcedfbcgabDoor
