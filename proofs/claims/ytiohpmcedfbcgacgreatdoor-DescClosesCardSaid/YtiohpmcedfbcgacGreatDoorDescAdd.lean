/- Several texts of ours in one, in build order (DescAdd, InsPut). Conditions: each theorem's own premises. -/
import Derived.Test.YtiohpmcedfbcgacGreatDoorDescFiles
import Derived.Test.YtiohpmcedfbcgacGreatDoorTreeHold
import Derived.Test.YtiohpmcedfbcgacGreatDoorMaps
import Derived.BigRegion
/- Package desc: add. Conditions: each theorem's own premises. -/
namespace Go.Proofs.YtiohpmcedfbcgacGreatDoor
open Go.RowKit
set_option linter.unusedVariables false
def leastK (T : List (Int × PE)) : Nat → Nat → Nat
  | 0, k => k
  | f + 1, k => if (mget T (k : Int)).isSome then leastK T f (k + 1) else k
/-- The least key that is free. -/
def freeE (T : List (Int × PE)) : Nat := leastK T 40 0
theorem leastK_spec (T : List (Int × PE)) : ∀ (f k : Nat), k ≤ leastK T f k ∧ leastK T f k ≤ k + f ∧ (∀ i : Nat, k ≤ i → i < leastK T f k → (mget T (i : Int)).isSome = true) ∧ (leastK T f k < k + f → mget T ((leastK T f k : Nat) : Int) = none)
  | 0, k => ⟨Nat.le_refl _, Nat.le_refl _, fun i h1 h2 => by unfold leastK at h2; omega, fun h => by unfold leastK at h; omega⟩
  | f + 1, k => by
    unfold leastK
    cases hk : mget T (k : Int) with
    | none =>
      simp only [Option.isSome_none, Bool.false_eq_true, if_false]
      exact ⟨Nat.le_refl _, by omega, fun i h1 h2 => by omega, fun _ => hk⟩
    | some p =>
      simp only [Option.isSome_some, if_true]
      obtain ⟨a, b, c, d⟩ := leastK_spec T f (k + 1)
      refine ⟨by omega, by omega, fun i h1 h2 => ?_, fun h => d (by omega)⟩
      by_cases e : i = k
      · rw [e, hk]; rfl
      · exact c i (by omega) h2
theorem keys_fillE : ∀ (k : Nat) (T : List (Int × PE)), MNodup T → (∀ i : Int, 0 ≤ i → i < k → (mget T i).isSome = true) → k ≤ T.length
  | 0, T, _, _ => Nat.zero_le _
  | k + 1, T, hn, h => by
    obtain ⟨v, hv⟩ := Option.isSome_iff_exists.1 (h (k : Int) (by omega) (by omega))
    have h1 := mdel_length hn hv
    have h2 := keys_fillE k (mdel T (k : Int)) (mdel_nodup hn _) (fun i h1 h2 => by
      rw [mget_mdel, if_neg (by omega)]
      exact h i h1 (by omega))
    omega
theorem freeE_spec {T : List (Int × PE)} (h : MNodup T) (hl : T.length < 40) : freeE T < 40 ∧ mget T (freeE T : Int) = none ∧ ∀ i : Nat, i < freeE T → (mget T (i : Int)).isSome = true := by
  obtain ⟨a, b, c, d⟩ := leastK_spec T 40 0
  have hlt : freeE T < 40 := by
    rcases Nat.lt_or_ge (freeE T) 40 with h1 | h1
    · exact h1
    · have h2 := keys_fillE 40 T h (fun i h3 h4 => by
        have h5 := c i.toNat (by omega) (by unfold freeE at h1; omega)
        rwa [show ((i.toNat : Nat) : Int) = i by omega] at h5)
      omega
  exact ⟨hlt, d (by unfold freeE at hlt; omega), fun i hi => c i (by omega) hi⟩
def updC (C : Nat → Nat × Int) (c : Nat) (x : Nat × Int) : Nat → Nat × Int := fun j => if j = c then x else C j
section
variable {w w' w1 w2 : World} {fb tb om b c tab : Nat} {S S' : PS} {B : Int → Nat} {P : Nat → Nat} {Ft F : Nat → Prop} {C : Nat → Nat × Int} {e e' : PE} {k n : Int} {L L' : PTab}
theorem keysE_new (hk : mget S.es k = none) : keysE (updI B k c) (mput S.es k e) = mput (keysE B S.es) k c := by
  have h1 : mput S.es k e = S.es ++ [(k, e)] := by unfold mput; rw [if_neg (by rw [hk]; simp)]
  have h2 : mput (keysE B S.es) k c = keysE B S.es ++ [(k, c)] := by unfold mput; rw [if_neg (by rw [keysE_get, hk]; simp)]
  rw [h1, h2]
  unfold keysE
  rw [List.map_append]
  congr 1
  · refine List.map_congr_left fun t ht => ?_
    have : t.1 ≠ k := mget_none_iff.1 hk t ht
    show (t.1, updI B k c t.1) = (t.1, B t.1)
    unfold updI
    rw [if_neg this]
  · show [(k, updI B k c k)] = [(k, c)]
    unfold updI
    rw [if_pos rfl]
theorem updC_old (h : CFoot C b) (hc : ¬ CFoot C c) (x : Nat × Int) : updC C c x b = C b := if_neg (fun e => by rw [e] at h; exact hc h)
theorem FilesIn.add (h : FilesIn w fb tb om S B P Ft C) (hk : mget S.es k = none) (nd : EntAt w' c P e) (hm : MapIs w' om (.int .i64) encI ptrV (mput (keysE B S.es) k c)) (t : Turn (fun j => j = om ∨ j = c) w w') (hc : ¬ CFoot C c) :
    FilesIn w' fb tb om (putS S k e) (updI B k c) P Ft (updC C c (3, k)) := by
  have hget : ∀ m q, mget (mput S.es k e) m = some q → (m = k ∧ q = e) ∨ (m ≠ k ∧ mget S.es m = some q) := fun m q hq => by
    rw [mget_mput] at hq
    by_cases e : m = k
    · rw [if_pos e] at hq; cases hq; exact .inl ⟨e, rfl⟩
    · rw [if_neg e] at hq; exact .inr ⟨e, hq⟩
  have hno : ∀ b x, C b = x → x ≠ (0, 0) → x ≠ (2, 0) → ¬ (b = om ∨ b = c) := fun b x h1 h2 h3 h4 => by
    rcases h4 with rfl | rfl
    · exact h3 (by rw [← h1, h.cm])
    · exact hc (by show C _ ≠ _; rw [h1]; exact h2)
  have hf : ∀ b x, C b = x → x ≠ (0, 0) → updC C c (3, k) b = x := fun b x h1 h2 => by rw [updC_old (by show C _ ≠ _; rw [h1]; exact h2) hc]; exact h1
  refine ⟨(t.cell (a := ⟨fb, 0, none⟩) (lt_of_cell h.h0) (hno _ _ h.cf (by simp) (by simp))).trans h.h0, (t.cell (a := ⟨fb, 1, none⟩) (lt_of_cell h.h1) (hno _ _ h.cf (by simp) (by simp))).trans h.h1, h.tr.turned t (fun j hj => hno _ _ (h.ct j hj) (by simp) (by simp)), ?_, fun m q hq => ?_, fun i q hq => (h.pp i q hq).turned t (hno _ _ (h.cp i q hq) (by simp) (by simp)), hf _ _ h.cf (by simp), hf _ _ h.cm (by simp), fun m q hq => ?_, fun i q hq => hf _ _ (h.cp i q hq) (by simp), fun j hj => hf _ _ (h.ct j hj) (by simp), fun j hj => ?_⟩
  · show MapIs w' om (.int .i64) encI ptrV (keysE (updI B k c) (mput S.es k e))
    rw [keysE_new hk]; exact hm
  · rcases hget m q hq with ⟨rfl, rfl⟩ | ⟨h1, h2⟩
    · show EntAt w' (if m = m then c else B m) P q
      rw [if_pos rfl]; exact nd
    · show EntAt w' (if m = k then c else B m) P q
      rw [if_neg h1]
      exact (h.en m q h2).turned t (hno _ _ (h.ce m q h2) (by simp) (by simp))
  · rcases hget m q hq with ⟨rfl, rfl⟩ | ⟨h1, h2⟩
    · show updC C c (3, m) (if m = m then c else B m) = _
      rw [if_pos rfl]; exact if_pos rfl
    · show updC C c (3, k) (if m = k then c else B m) = _
      rw [if_neg h1]
      exact hf _ _ (h.ce m q h2) (by simp)
  · by_cases e1 : j = c
    · rw [e1]; exact nd.lt
    · exact Nat.lt_of_lt_of_le (h.low j (by have hj : updC C c (3, k) j ≠ _ := hj; unfold updC at hj; rw [if_neg e1] at hj; exact hj)) t.size
set_option maxHeartbeats 2000000 in
set_option maxRecDepth 100000 in
theorem add_is (h : FilesIn w fb tb om S B P Ft C) (hnd : MNodup S.es) (ht : TabIs w tab L) (hn : ¬ CFoot C tab) (nd : EntAt w c P e) (hc : ¬ CFoot C c) (hct : c ≠ tab) {j : Nat} (hl : leastL L = j) (hj : j < 8) (hlen : S.es.length < 40) :
    Calls Tryz.prog 221 #[.pointer (some ⟨fb, 0, none⟩), .pointer (some ⟨tab, 0, none⟩), .pointer (some ⟨c, 0, none⟩)] w fun e' w' => e' = .returned (.tuple #[.int .i64 j, .nilIface]) ∧ FilesIn w' fb tb om (putS S (freeE S.es) { e with refs := 1 }) (updI B (freeE S.es) c) P Ft (updC C c (3, (freeE S.es : Int))) ∧ TabIs w' tab (tset L j ((freeE S.es : Int) + 1, false)) ∧ Turn (fun k => CFoot C k ∨ k = tab ∨ k = c) w w' := by
  obtain ⟨hK, hfn, hfa⟩ := freeE_spec hnd hlen
  obtain ⟨K, hKe⟩ : ∃ K, freeE S.es = K := ⟨_, rfl⟩
  rw [hKe] at hK hfn hfa ⊢
  have HI := hid h
  have HT := hid ht
  have HN := hid hn
  have ND := hid nd
  have HC := hid hc
  have HCt := hid hct
  have HL := hid hl
  have HFn := hid hfn
  have HLk : Hid (∀ w', Turn (fun _ => False) w w' → ∀ k : Nat, k < K → ∃ b, (Instr.lookup 201 (.map (some om)) (.int .i64 k) false).run Tryz.prog w' = .ok (.pointer (some ⟨b, 0, none⟩)) w') := hid (fun w' t k hk => by
    obtain ⟨q, hq⟩ := Option.isSome_iff_exists.1 (hfa k hk)
    exact ⟨_, (h.turned t (fun _ _ => id)).look hq⟩)
  have HLen := hid hlen
  have HLe := hid (least_is ht)
  clear h hnd ht hn nd hc hct hl hlen hfn hfa hKe
  go_enter Tryz.func221, Tryz.ntmps221
  go_wp2_with (go_at_call 220; refine HLe.out.mono ?_; rintro e w1 ⟨rfl, t1⟩; rw [HL.out]; have HT1 := hid t1; clear t1; have hh := (HI.out.turned HT1.out (fun _ _ => id)).h1; have hln := (HI.out.turned HT1.out (fun _ _ => id)).mp.run_len Tryz.underlying201 3; rw [show (keysE B S.es).length = S.es.length from List.length_map ..] at hln; have hln2 : ¬ (40 : Int) ≤ S.es.length := by have := HLen.out; omega)
  go_loopg [9] K (fun gl i wr => ∃ k : Nat, k + gl = K ∧ i = .int .i64 k ∧ wr = w1)
  case atStart => exact ⟨0, by omega, rfl, rfl⟩
  case round =>
    obtain ⟨k, hk, rfl, hwr⟩ := hrel
    subst wr
    by_cases hkl : k < K
    · obtain ⟨b', lk⟩ := HLk.out _ HT1.out k hkl
      clear hln hln2
      go_wp2_with fail
      go_roundg (gk - 1)
      case measure => omega
      case rel => exact ⟨k + 1, by omega, by go_num, rfl⟩
    · obtain rfl : k = K := by omega
      have lkK := (HI.out.turned HT1.out (fun _ _ => id)).looknone HFn.out
      have hi1 := HI.out.turned HT1.out (fun _ _ => id)
      have nd1 := ND.out.turned HT1.out id
      have c5 := nd1.c5
      have z5 := nd1.fz 5
      have hcm : CFoot C om := by show C om ≠ _; rw [HI.out.cm]; simp
      have hcn : c ≠ om := fun e => HC.out (by rw [e]; exact hcm)
      have hto : tab ≠ om := fun e => HN.out (by rw [e]; exact hcm)
      have t12 : Turn (fun j => j = c) w1 (w1.setCell ⟨c, 5, none⟩ (.int .i64 1)) := turn_own c w1 5 _
      have nd2 := nd1.setRefs (z := 1) (c := 1) rfl
      obtain ⟨w3, hrun3, hm3, t3⟩ := (hi1.mp.turned t12 (fun e => hcn e.symm)).run_update (P := Tryz.prog) keyI Tryz.underlying201 Tryz.underlying3 (k : Int) c
      replace hrun3 : (Instr.mapUpdate 201 (.map (some om)) (.int .i64 k) (.pointer (some ⟨c, 0, none⟩))).run Tryz.prog (w1.setCell ⟨c, 5, none⟩ (.int .i64 1)) = .ok () w3 := hrun3
      have hi3 := hi1.add HFn.out (nd2.turned t3 hcn) hm3 ((t12.mono (fun _ _ h => .inr h)).trans (t3.mono (fun _ _ h => .inl h))) HC.out
      have hh2 := (t12.cell (a := ⟨fb, 1, none⟩) (lt_of_cell hh) (fun e => HC.out (by have e : fb = c := e; rw [← e]; show C fb ≠ _; rw [HI.out.cf]; simp))).trans hh
      have ht3 := ((HT.out.turned HT1.out id).turned t12 (fun e => HCt.out e.symm)).turned t3 hto
      have a1 := ht3.ent j hj
      have a2 := ht3.mark j hj
      have a3 := ht3.fz (j * 2)
      have a4 := ht3.fz (j * 2 + 1)
      have HI3 := hid hi3
      have HT3 := hid ht3
      have HTu := hid (((no_turn (X := fun i => CFoot C i ∨ i = tab ∨ i = c) HT1.out).trans (t12.mono (fun _ _ h => .inr (.inr h)))).trans (t3.mono (fun _ _ h => .inl (by rw [h]; exact hcm))))
      have hw : IntKind.i64.wrap ((k : Int) + 1) = (k : Int) + 1 := IntWalk.i64_in _ (by omega)
      have HCm := hid hcm
      clear hi1 nd1 hcm hcn hto t12 nd2 hm3 t3 hi3 ht3 hkl hk HLk hln hln2
      go_wp2_with fail
      go_ret2
      have hnt : ¬ CFoot (updC C c (3, (k : Int))) tab := fun h => HN.out (by have h : updC C c (3, (k : Int)) tab ≠ _ := h; unfold updC at h; rw [if_neg (fun e => HCt.out e.symm)] at h; exact h)
      exact ⟨rfl, HI3.out.beside hnt (turn_tab_own tab _ (j * 2) (j * 2 + 1) _ _), HT3.out.set hj _ false (by omega), HTu.out.trans (((Turn.refl (fun i => CFoot C i ∨ i = tab ∨ i = c) _).setCell ⟨tab, j * 2, none⟩ _ (fun _ => .inr (.inl rfl))).setCell ⟨tab, j * 2 + 1, none⟩ _ (fun _ => .inr (.inl rfl)))⟩
end
end Go.Proofs.YtiohpmcedfbcgacGreatDoor
/- A map literal's insert in a walk. No program in sight. Conditions: each theorem's own premises. -/
namespace Go.Proofs.YtiohpmcedfbcgacGreatDoor
open Go.RowKit Go.MapKept
set_option linter.unusedVariables false

section
variable {κ β : Type} [DecidableEq κ] {d : TypeDesc} {enc : κ → Value} {val : β → Value} {w : World} {m : List (κ × β)} {P : Program}
variable {ops : Array Oper} {rest : List Oper} {o : Oper} {a : Act} {Q : Exit → Act → World → Prop}
theorem wpList_insput (hg : o.guard = none) (mo x vo : Operand) (T kt et : TypeId) (hop : o.op = .insert T mo x vo) (hT : P.underlying T = some (.map kt et)) (hd : P.underlying kt = some d) (K : KeyEnc d enc)
    (b : Nat) (hm : a.eval mo = .map (some b)) (h : MapIs w b d enc val m) (k : κ) (hx : a.eval x = enc k) (v : β) (hv : a.eval vo = val v)
    (hK : ∀ w', MapIs w' b d enc val (mput m k v) → Turn (fun j => j = b) w w' → wpList P ops Q rest (a.put o.dst undef) w') : wpList P ops Q (o :: rest) a w := by
  refine wpList_plain hg fun K' hK' => ?_
  obtain ⟨w', hrun, r1, r2⟩ := h.run_update K hT hd k v
  unfold Oper.wp
  simp [execOp, hop, hm, hx, hv, hrun, Result.andThen]
  exact hK' _ _ (hK w' r1 r2)
end

end Go.Proofs.YtiohpmcedfbcgacGreatDoor
