/- Several texts of ours in one, in build order (RefTreeSweep, RefTreeHold, RefTreeUnlink, RefTreeLaw). Conditions: each theorem's own premises. -/
import Derived.Test.YtiohpmcedfbcgacGreatDoorRefTreeRead
import Derived.Test.YtiohpmcedfbcgacGreatDoorMapRange
import Derived.Test.YtiohpmcedfbcgacGreatDoorMapNil
/- The document's tree: sweep. Conditions: each theorem's own premises. -/
namespace Go.Proofs.YtiohpmcedfbcgacGreatDoor
open Go.RowKit Go.MapKept
set_option linter.unusedVariables false
section
variable {w w' w1 w2 w3 wr : World} {rb nm lb b d c dn : Nat} {T T1 T2 : PT} {D : Int → Nat} {p p' q nn : PN} {n k : Int} {s : ByteArray}
/-- How often each number has been led to, so far; S: the numbers that were led to. -/
structure LedIs (w : World) (lb : Nat) (S : List Int) : Prop where
  ex : ∃ L : List (Int × Int), MapIs w lb (.int .i64) encI encI L ∧ (∀ n, (mget L n).isSome = true ↔ n = 0 ∨ n ∈ S) ∧ ∀ n v, mget L n = some v → 1 ≤ v ∧ v ≤ 1 + S.length
theorem LedIs.turned {X : Nat → Prop} {S : List Int} (h : LedIs w lb S) (t : Turn X w w') (hn : ¬ X lb) : LedIs w' lb S := by
  obtain ⟨L, h1, h2⟩ := h.ex
  exact ⟨L, h1.turned t hn, h2⟩
theorem LedIs.lt {S : List Int} (h : LedIs w lb S) : lb < w.heap.size := by
  obtain ⟨L, h1, h2⟩ := h.ex
  exact h1.lt
theorem zeroI (w : World) : (zeroValue 3).run Tryz.prog w = .ok (encI 0) w := by kernel_rfl
/-- One more name leads to a number. -/
theorem LedIs.more {S : List Int} (h : LedIs w lb S) (n : Int) (hS : S.length ≤ 1000000000) : ∃ v w1, (Instr.lookup 106 (.map (some lb)) (.int .i64 n) false).run Tryz.prog w = .ok (.int .i64 v) w ∧ IntKind.i64.wrap (v + 1) = v + 1 ∧
    (Instr.mapUpdate 106 (.map (some lb)) (.int .i64 n) (.int .i64 (v + 1))).run Tryz.prog w = .ok () w1 ∧ LedIs w1 lb (n :: S) ∧ Turn (fun j => j = lb) w w1 := by
  obtain ⟨L, h1, h2, h3⟩ := h.ex
  have lk := h1.run_lookup (P := Tryz.prog) keyI Tryz.underlying106 Tryz.underlying3 (zeroI w) n false
  obtain ⟨v, hv, hb⟩ : ∃ v, (Instr.lookup 106 (.map (some lb)) (.int .i64 n) false).run Tryz.prog w = .ok (.int .i64 v) w ∧ 0 ≤ v ∧ v ≤ 1 + S.length := by
    cases hg : mget L n with
    | none => rw [hg] at lk; exact ⟨0, lk, by omega, by omega⟩
    | some v => rw [hg] at lk; have := h3 n v hg; exact ⟨v, lk, by omega, by omega⟩
  obtain ⟨w1, hrun, hm, t⟩ := h1.run_update (P := Tryz.prog) keyI Tryz.underlying106 Tryz.underlying3 n (v + 1)
  refine ⟨v, w1, hv, IntWalk.i64_in _ (by omega), hrun, ⟨mput L n (v + 1), hm, fun m => ?_, fun m u hu => ?_⟩, t⟩
  · rw [mget_mput, List.mem_cons]
    by_cases e : m = n
    · rw [if_pos e]; simp [e]
    · rw [if_neg e, h2]; simp [e]
  · rw [mget_mput] at hu
    rw [List.length_cons]
    by_cases e : m = n
    · rw [if_pos e] at hu; cases hu; exact ⟨by omega, by omega⟩
    · rw [if_neg e] at hu; have := h3 m u hu; exact ⟨this.1, by omega⟩
/-- Whether a number was led to. -/
theorem LedIs.look {S : List Int} (h : LedIs w lb S) (n : Int) : ∃ v, (Instr.lookup 106 (.map (some lb)) (.int .i64 n) false).run Tryz.prog w = .ok (.int .i64 v) w ∧ (v == 0) = !(decide (n = 0 ∨ n ∈ S)) := by
  obtain ⟨L, h1, h2, h3⟩ := h.ex
  have lk := h1.run_lookup (P := Tryz.prog) keyI Tryz.underlying106 Tryz.underlying3 (zeroI w) n false
  cases hg : mget L n with
  | none =>
    rw [hg] at lk
    refine ⟨0, lk, ?_⟩
    have : ¬ (n = 0 ∨ n ∈ S) := fun e => by have := (h2 n).2 e; rw [hg] at this; cases this
    rw [decide_eq_false this]; rfl
  | some v =>
    rw [hg] at lk
    refine ⟨v, lk, ?_⟩
    have : n = 0 ∨ n ∈ S := (h2 n).1 (by rw [hg]; rfl)
    have hv := h3 n v hg
    rw [decide_eq_true this]
    simp; omega
theorem RTreeIn.omap (h : RTreeIn w rb nm T D) (hok : TOk T) (hn : mget T n = some q) : OMapIs w (if q.isDir then some (D n) else none) .string encS encI q.ds := by
  cases hd : q.isDir with
  | true => exact .inl ⟨D n, by simp, h.dir n q hn hd⟩
  | false => exact .inr ⟨by simp, hok.file n q hn hd⟩
/-- All numbers that names lead to. -/
def ledL (T : PT) : List Int := T.flatMap fun t => t.2.ds.map (·.2)
def keepB (T : PT) (t : Int × PN) : Bool := decide (t.1 = 0 ∨ t.1 ∈ ledL T) || decide (t.2.held ≠ 0)
/-- Without what no name leads to, and nobody holds. -/
def sweptT (T : PT) : PT := T.filter (keepB T)
theorem ledL_mem (hok : TOk T) (t : Int) : t ∈ ledL T ↔ ∃ n q s, mget T n = some q ∧ (s, t) ∈ q.ds := by
  unfold ledL
  rw [List.mem_flatMap]
  constructor
  · rintro ⟨⟨n, q⟩, hm, h⟩
    obtain ⟨⟨s, u⟩, h1, h2⟩ := List.mem_map.1 h
    simp only at h2
    subst h2
    exact ⟨n, q, s, mget_mem hok.nd hm, h1⟩
  · rintro ⟨n, q, s, h1, h2⟩
    exact ⟨(n, q), mem_of_mget h1, List.mem_map.2 ⟨(s, t), h2, rfl⟩⟩
/-- What is left when some have been looked at. -/
def midT (T : PT) (sk : List Int) : PT := T.filter fun t => decide (t.1 ∉ sk) || keepB T t
theorem midT_nil : midT T [] = T := by
  unfold midT
  simp
theorem midT_keep (hnd : MNodup T) (hn : mget T n = some q) (hk : keepB T (n, q) = true) (sk : List Int) : midT T (n :: sk) = midT T sk := by
  unfold midT
  refine List.filter_congr fun t ht => ?_
  by_cases e : t.1 = n
  · have h1 := mget_mem hnd ht
    rw [e, hn] at h1
    have : t = (n, q) := by rw [← e]; exact Prod.ext rfl (Option.some.inj h1).symm
    rw [this, hk]; simp
  · simp [e]
theorem midT_drop (hnd : MNodup T) (hn : mget T n = some q) (hk : keepB T (n, q) = false) (sk : List Int) : midT T (n :: sk) = mdel (midT T sk) n := by
  unfold midT mdel
  rw [List.filter_filter]
  refine List.filter_congr fun t ht => ?_
  by_cases e : t.1 = n
  · have h1 := mget_mem hnd ht
    rw [e, hn] at h1
    have : t = (n, q) := by rw [← e]; exact Prod.ext rfl (Option.some.inj h1).symm
    rw [this, hk]; simp
  · simp [e]
theorem midT_end {sk : List Int} (h : ∀ t ∈ midT T sk, t.1 ∈ sk) : midT T sk = sweptT T := by
  unfold sweptT
  refine List.filter_congr fun t ht => ?_
  cases hk : keepB T t with
  | true => simp
  | false =>
    by_cases e : t.1 ∈ sk
    · simp [e]
    · exact absurd (h t (List.mem_filter.2 ⟨ht, by simp [e]⟩)) e
section
variable {κ β : Type} [DecidableEq κ] {d : TypeDesc} {enc : κ → Value} {val : β → Value} {w : World} {mb r cnt : Nat} {m : List (κ × β)} {P : Program} {seenK : κ → Prop} {ops : Array Oper} {rest : List Oper} {o : Oper} {a : Act} {Q : Exit → Act → World → Prop}
theorem wpList_rangedelT (hg : o.guard = none) (mo x : Operand) (T kt et : TypeId) (hop : o.op = Op.call { callee := Callee.builtin Builtin.delete, args := #[mo, x], argTypes := #[T, kt] }) (hT : P.underlying T = some (.map kt et)) (hd : P.underlying kt = some d) (K : KeyEnc d enc)
    (hm : a.eval mo = .map (some mb)) (h : RangeOf w mb r enc val m seenK cnt) (k : κ) (hx : a.eval x = enc k) (v0 : β) (hk : mget m k = some v0) (hs : seenK k)
    (hK : ∀ w', RangeOf w' mb r enc val (mdel m k) seenK cnt → MapIs w' mb d enc val (mdel m k) → Turn (fun j => j = mb) w w' → wpList P ops Q rest (a.put o.dst (.tuple #[])) w') : wpList P ops Q (o :: rest) a w := by
  refine wpList_plain hg fun K' hK' => ?_
  obtain ⟨w', hrun, r1, r2, r3⟩ := h.run_delete (ty := o.type) K hT hd k v0 hk hs
  unfold Oper.wp
  simp [execOp, hop, resolve, invoke, builtin, hm, hx, hrun, Result.andThen]
  exact hK' _ _ (hK w' r1 r2 r3)
end
set_option maxHeartbeats 4000000 in
set_option maxRecDepth 100000 in
theorem rsweep_is (h : RTreeIn w rb nm T D) (hok : TOk T) (hb : ∀ n p, mget T n = some p → p.ds.length ≤ 1000000) :
    Calls Tryz.prog 215 #[.pointer (some ⟨rb, 0, none⟩)] w fun e w' => e = .returned (.tuple #[]) ∧ RTreeIn w' rb nm (sweptT T) D ∧ Turn (fun k => k = nm) w w' := by
  have H := hid h
  have HOk := hid hok
  have HB := hid hb
  have f1 := @rfld1
  have hmm := @run_makeMap Tryz.prog
  obtain ⟨w1, hrun1, hm1, t1⟩ := (MapIs.made (d := .int .i64) (enc := encI) (val := encI) w).run_update (P := Tryz.prog) keyI Tryz.underlying106 Tryz.underlying3 0 1
  replace hrun1 : (Instr.mapUpdate 106 (.map (some w.heap.size)) (.int .i64 0) (.int .i64 1)).run Tryz.prog (w.alloc (.map #[] 0)) = .ok () w1 := hrun1
  have HL1 : Hid (LedIs w1 w.heap.size []) := hid ⟨_, hm1, fun n => by rw [mget_mput]; by_cases e : n = 0 <;> simp [e, mget], fun n v hv => by
    rw [mget_mput] at hv
    by_cases e : n = 0
    · rw [if_pos e] at hv; cases hv; exact ⟨by omega, by simp⟩
    · rw [if_neg e] at hv; simp [mget] at hv⟩
  have tw1 : Turn (fun _ => False) w w1 := ((Turn.refl (fun _ => False) w).alloc _).trans' t1 (fun k hk e => by omega)
  have hin1 := h.turned tw1 (fun _ _ => id)
  have hh := hin1.hdr
  have HM1 := hid hin1.mp
  have HW1 := hid tw1
  obtain ⟨lb, hlb⟩ : ∃ lb, w.heap.size = lb := ⟨_, rfl⟩
  have HLb := hid hlb
  have HLb1 := hid HL1.out.lt
  rw [hlb] at hrun1 HL1 HLb1
  have hmm0 : ∀ t, (Instr.makeMap t none).run Tryz.prog w = .ok (.map (some lb)) (w.alloc (.map #[] 0)) := fun t => by rw [← hlb]; exact hmm t w
  have HLn : Hid ((rlist D T).length = T.length) := hid (by unfold rlist; rw [List.length_map])
  clear h hok hb hm1 t1 tw1 hin1 hlb hmm
  go_enter Tryz.func215, Tryz.ntmps215
  go_wp2_with (at_range; refine wpList_maprange rfl _ _ 3 179 rfl Tryz.underlying61 rfl HM1.out ?_; intro w2 hR2 t2 hs2; have HR2 := hid hR2; have HT2 := hid t2; clear hR2 t2 hs2)
  obtain ⟨r, hrr⟩ : ∃ r, w1.heap.size = r := ⟨_, rfl⟩
  rw [hrr] at HR2
  rw [hrr]
  have HWr := hid hrr
  clear hrr hh
  go_frame
  go_loopg [] ((rlist D T).length) (fun g wr => ∃ (seenK : Int → Prop) (S : List Int), Hid (RangeOf wr nm r encI rnodeV (rlist D T) seenK g) ∧ Hid (LedIs wr lb S) ∧ Hid (∀ t, t ∈ S ↔ ∃ n q s, mget T n = some q ∧ seenK n ∧ (s, t) ∈ q.ds) ∧ S.length + g * 1000000 ≤ 60000000 ∧ Hid (Turn (fun _ => False) w wr))
  case atStart => exact ⟨_, [], HR2, hid (HL1.out.turned HT2.out id), hid (fun t => by simp), by have := HLn.out; have := HOk.out.size; simp only [List.length_nil]; omega, hid (HW1.out.trans HT2.out)⟩
  case round =>
    clear HR2 HT2
    obtain ⟨seenK, S, hR, hL, hS, hlen, hT⟩ := hrel
    have hh := (H.out.turned hT.out (fun _ _ => id)).hdr
    go_wp2_with (at_next; refine wpList_mapnext rfl _ rfl rfl hR.out ?_ ?_)
    · intro hall
      have hSL : ∀ t, t ∈ S ↔ t ∈ ledL T := fun t => by
        rw [hS.out t, ledL_mem HOk.out]
        constructor
        · rintro ⟨n, q, s, h1, _, h2⟩; exact ⟨n, q, s, h1, h2⟩
        · rintro ⟨n, q, s, h1, h2⟩
          exact ⟨n, q, s, h1, hall n (D n) q (mem_of_mget (by rw [rlist_get, h1]; rfl)), h2⟩
      have HSL := hid hSL
      have HinR := hid (H.out.turned hT.out (fun _ _ => id))
      have HM2 := hid HinR.out.mp
      clear hall hSL hR hS hlen
      go_wp2_with (at_range; refine wpList_maprange rfl _ _ 3 179 rfl Tryz.underlying61 rfl HM2.out ?_; intro w3 hR3 t3 hs3; have HR3 := hid hR3; have HT3 := hid t3; clear hR3 t3 hs3)
      obtain ⟨r3, hr3⟩ : ∃ r3, wr.heap.size = r3 := ⟨_, rfl⟩
      rw [hr3] at HR3
      rw [hr3]
      have HL3 := hid (hL.out.turned HT3.out id)
      have HIn3 := hid (HinR.out.turned HT3.out (fun _ _ => id))
      have HT33 := hid ((hT.out.trans HT3.out).mono (fun k (_ : k < w.heap.size) (h : False) => (h.elim : k = nm)))
      have HNe : Hid (r3 ≠ lb ∧ r3 ≠ nm ∧ r3 ≠ rb ∧ w.heap.size ≤ r3 ∧ nm ≠ lb ∧ (∀ j, RFoot rb nm T D j → j ≠ r3)) := hid (by
        have h1 := hL.out.lt
        have h3 := hT.out.size
        have h5 := HLb.out
        have h6 := H.out.mp.lt
        refine ⟨by omega, by omega, ?_, by omega, by omega, fun j hj => ?_⟩
        · have := H.out.foot_lt rb (.inl rfl); omega
        · have := H.out.foot_lt j hj; omega)
      clear hr3 hh HM2 HinR hL hT HT3
      go_frame
      go_loopg [] ((rlist D T).length) (fun g wr => ∃ (seenK : Int → Prop) (sk : List Int), Hid (RangeOf wr nm r3 encI rnodeV (rlist D (midT T sk)) seenK g) ∧ Hid (∀ k, seenK k ↔ k ∈ sk) ∧ Hid (LedIs wr lb S) ∧ Hid (RTreeIn wr rb nm (midT T sk) D) ∧ Hid (Turn (fun k => k = nm) w wr))
      case atStart => exact ⟨_, [], by rw [midT_nil]; exact HR3, hid (fun k => by simp), HL3, by rw [midT_nil]; exact HIn3, HT33⟩
      case round =>
        clear HR3 HL3 HIn3 HT33
        obtain ⟨seenK, sk, hR, hK, hL, hI, hT⟩ := hrel
        have hndM : MNodup (midT T sk) := List.Nodup.sublist (List.Sublist.map _ List.filter_sublist) HOk.out.nd
        have HNdM := hid hndM
        have hh := hI.out.hdr
        clear hndM
        go_wp2_with (at_next; refine wpList_mapnext rfl _ rfl rfl hR.out ?_ ?_)
        · intro hall
          have hend : midT T sk = sweptT T := midT_end (fun t ht => (hK.out t.1).1 (hall t.1 (D t.1) t.2 (by unfold rlist; exact List.mem_map.2 ⟨t, ht, rfl⟩)))
          have HFin : Hid (RTreeIn wr rb nm (sweptT T) D) := hid (hend ▸ hI.out)
          clear hall hend hh
          go_wp2_with fail
          go_end0
          exact ⟨rfl, HFin.out, hT.out⟩
        · intro n dn q w5 cnt' hpm hns hR5 hlt5 t5 hsz5 hen
          (try simp only at hns hen)
          obtain ⟨hdn, hqM⟩ : D n = dn ∧ mget (midT T sk) n = some q := by
            have h1 := mget_mem (rlist_nodup D HNdM.out) hpm
            rw [rlist_get] at h1
            cases hg : mget (midT T sk) n with
            | none => rw [hg] at h1; cases h1
            | some q' => rw [hg] at h1; cases h1; exact ⟨rfl, rfl⟩
          subst hdn
          have hq : mget T n = some q := mget_mem HOk.out.nd (List.mem_filter.1 (mem_of_mget hqM)).1
          unfold rnodeV encI at hen
          simp only at hen
          obtain ⟨om, hom⟩ : ∃ om, (if q.isDir = true then some (D n) else none) = om := ⟨_, rfl⟩
          obtain ⟨bq, hbq⟩ : ∃ bq, q.isDir = bq := ⟨_, rfl⟩
          rw [hom, hbq] at hen
          obtain ⟨W, hW⟩ : ∃ W, w5.alloc (.cells #[.map om, .bool bq, .string q.data, .int .i64 (q.held : Int)] 179) = W := ⟨_, rfl⟩
          have t6 : Turn (fun _ => False) w5 W := by rw [← hW]; exact (Turn.refl _ _).alloc _
          have HR6 := hid (hR5.turned t6 id id)
          have HL6 := hid ((hL.out.turned t5 (fun e => HNe.out.1 e.symm)).turned t6 id)
          have hfm : ∀ j, RFoot rb nm (midT T sk) D j → RFoot rb nm T D j := fun j hj => by
            rcases hj with h | h | ⟨m, q', h1, h2, h3⟩
            · exact .inl h
            · exact .inr (.inl h)
            · exact .inr (.inr ⟨m, q', mget_mem HOk.out.nd (List.mem_filter.1 (mem_of_mget h1)).1, h2, h3⟩)
          have HI6 := hid ((hI.out.turned t5 (fun j hj => HNe.out.2.2.2.2.2 j (hfm j hj))).turned t6 (fun _ _ => id))
          have HT6 := hid ((hT.out.trans' t5 (fun k hk e => absurd e (by have := HNe.out.2.2.2.1; omega))).trans (t6.mono (fun _ _ h => h.elim)))
          obtain ⟨v, lk, hv⟩ := HL6.out.look n
          have hh6 := HI6.out.hdr
          rw [← hW] at lk hh6
          have HQ := hid hq
          have HQM := hid hqM
          have HK2 : Hid (∀ k, (seenK k ∨ k = n) ↔ k ∈ n :: sk) := hid (fun k => by rw [List.mem_cons, hK.out k]; exact or_comm)
          have HWq := hid hW
          clear hpm hns hR5 t5 t6 hfm hq hqM hom hbq hW hR hL hI hT hh hK
          by_cases hled : n = 0 ∨ n ∈ S
          · have hvb : (v == 0) = false := by rw [hv, decide_eq_true hled]; rfl
            have hkeep : keepB T (n, q) = true := by
              unfold keepB
              rw [decide_eq_true (show n = 0 ∨ n ∈ ledL T from hled.imp id (HSL.out n).1)]; rfl
            have HKeep := hid hkeep
            clear hv hled hkeep
            go_wp2_with fail
            go_roundg cnt'
            case measure => omega
            case rel =>
              rw [HWq.out]
              exact ⟨_, n :: sk, by rw [midT_keep HOk.out.nd HQ.out HKeep.out]; exact HR6, HK2, HL6, by rw [midT_keep HOk.out.nd HQ.out HKeep.out]; exact HI6, HT6⟩
          · have hvb : (v == 0) = true := by rw [hv, decide_eq_false hled]; rfl
            by_cases hheld : q.held = 0
            · have hkeep : keepB T (n, q) = false := by
                unfold keepB
                rw [decide_eq_false (fun e => hled (e.imp id (HSL.out n).2))]
                simp [hheld]
              have HKeep := hid hkeep
              have hhb : ((q.held : Int) == 0) = true := by simp [hheld]
              have HVn : Hid (mget (rlist D (midT T sk)) n = some (D n, q)) := hid (by rw [rlist_get, HQM.out]; rfl)
              rw [← HWq.out] at HR6
              clear hv hled hkeep hheld
              go_wp2_with (at_delete; refine wpList_rangedelT rfl _ _ 61 3 179 rfl Tryz.underlying61 Tryz.underlying3 keyI rfl HR6.out n rfl (D n, q) HVn.out (.inr rfl) ?_; intro w8 hr8 hm8 t8; have HR8 := hid hr8; have HM8 := hid hm8; have HT8 := hid t8; clear hr8 hm8 t8)
              go_roundg cnt'
              case measure => omega
              case rel =>
                have t8 := HT8.out
                rw [HWq.out] at t8
                refine ⟨_, n :: sk, ?_, HK2, hid (HL6.out.turned t8 (fun e => HNe.out.2.2.2.2.1 e.symm)), ?_, hid (HT6.out.trans t8)⟩
                · rw [midT_drop HOk.out.nd HQ.out HKeep.out, rlist_del]; exact HR8
                · rw [midT_drop HOk.out.nd HQ.out HKeep.out]; exact hid (HI6.out.del HM8.out t8)
            · have hkeep : keepB T (n, q) = true := by
                unfold keepB
                simp [hheld]
              have HKeep := hid hkeep
              have hhb : ((q.held : Int) == 0) = false := by simp [hheld]
              clear hv hled hkeep hheld
              go_wp2_with fail
              go_roundg cnt'
              case measure => omega
              case rel =>
                rw [HWq.out]
                exact ⟨_, n :: sk, by rw [midT_keep HOk.out.nd HQ.out HKeep.out]; exact HR6, HK2, HL6, by rw [midT_keep HOk.out.nd HQ.out HKeep.out]; exact HI6, HT6⟩
    · intro n dn q w5 cnt' hpm hns hR5 hlt5 t5 hsz5 hen
      (try simp only at hns hen)
      obtain ⟨hdn, hq⟩ : D n = dn ∧ mget T n = some q := by
        have h1 := mget_mem (rlist_nodup D HOk.out.nd) hpm
        rw [rlist_get] at h1
        cases hg : mget T n with
        | none => rw [hg] at h1; cases h1
        | some q' => rw [hg] at h1; cases h1; exact ⟨rfl, rfl⟩
      subst hdn
      have tw5 : Turn (fun _ => False) w w5 := hT.out.trans' t5 (fun k hk e => absurd e (by have := HWr.out; have := HW1.out.size; omega))
      unfold rnodeV at hen
      simp only at hen
      obtain ⟨om, hom⟩ : ∃ om, (if q.isDir = true then some (D n) else none) = om := ⟨_, rfl⟩
      obtain ⟨bq, hbq⟩ : ∃ bq, q.isDir = bq := ⟨_, rfl⟩
      rw [hom, hbq] at hen
      have hrn : r ≠ lb := fun e => by have := HWr.out; have := HLb1.out; omega
      obtain ⟨W, hW⟩ : ∃ W, w5.alloc (.cells #[.map om, .bool bq, .string q.data, .int .i64 (q.held : Int)] 179) = W := ⟨_, rfl⟩
      have t6 : Turn (fun _ => False) w5 W := by rw [← hW]; exact (Turn.refl _ _).alloc _
      have HO : Hid (OMapIs W om .string encS encI q.ds) := hid (by
        rw [← hom]
        exact (H.out.turned (tw5.trans t6) (fun _ _ => id)).omap HOk.out hq)
      have HR6 := hid (hR5.turned t6 id id)
      have HL6 := hid ((hL.out.turned t5 (fun e => hrn e.symm)).turned t6 id)
      have HT6 := hid (tw5.trans t6)
      have HQ := hid hq
      have HOm := hid hom
      have HNs := hid hns
      have HDl := hid (HB.out n q hq)
      rw [← hW] at HO HR6 HL6 HT6
      clear hpm hns hR5 t5 hR hL hT tw5 t6 hW hrn hq hom hbq hh
      go_wp2_with (at_range; refine wpList_orange rfl _ 166 9 3 rfl Tryz.underlying166 rfl HO.out ?_; intro w7 hR7 t7 hs7; have HR7 := hid hR7; have HT7 := hid t7; clear hR7 t7 hs7)
      obtain ⟨W, hW⟩ : ∃ W, w5.alloc (.cells #[.map om, .bool bq, .string q.data, .int .i64 (q.held : Int)] 179) = W := ⟨_, rfl⟩
      rw [hW] at HR7 HT7 HR6 HL6 HT6 HO
      rw [hW]
      obtain ⟨r2, hr2⟩ : ∃ r2, W.heap.size = r2 := ⟨_, rfl⟩
      rw [hr2] at HR7
      rw [hr2]
      have HR27 := hid (HR6.out.turned HT7.out id id)
      have HL7 := hid (HL6.out.turned HT7.out id)
      have HT77 := hid (HT6.out.trans HT7.out)
      have HNe : Hid (r2 ≠ lb ∧ r2 ≠ nm ∧ r2 ≠ r ∧ w.heap.size ≤ r2 ∧ (∀ b, om = some b → b ≠ r2 ∧ b ≠ lb) ∧ nm ≠ lb ∧ r ≠ lb) := hid (by
        have h1 := HL6.out.lt
        have h2 := HR6.out.lt
        have h3 := HT6.out.size
        have h5 := HLb.out
        have h6 := H.out.mp.lt
        have h8 := HWr.out
        have h9 := HLb1.out
        refine ⟨by omega, by omega, by omega, by omega, fun b hb => ?_, by omega, by omega⟩
        have h4 := HOm.out
        rw [hb] at h4
        cases hq : q.isDir with
        | false => rw [hq] at h4; cases h4
        | true =>
          rw [hq] at h4
          cases h4
          have h7 := (H.out.dir n q HQ.out hq).lt
          exact ⟨by omega, by omega⟩)
      clear hW hr2 HR6 HL6 HT6 HT7 HO
      go_frame
      go_loopg [] (q.ds.length) (fun g wr => ∃ (seenS : ByteArray → Prop) (S2 : List Int), Hid (ORangeOf wr om r2 encS encI q.ds seenS g) ∧ Hid (LedIs wr lb S2) ∧ Hid (∀ t, t ∈ S2 ↔ t ∈ S ∨ ∃ s, seenS s ∧ (s, t) ∈ q.ds) ∧ S2.length + g ≤ S.length + q.ds.length ∧ Hid (RangeOf wr nm r encI rnodeV (rlist D T) (fun k => seenK k ∨ k = n) cnt') ∧ Hid (Turn (fun _ => False) w wr))
      case atStart => exact ⟨_, S, HR7, HL7, hid (fun t => by simp), Nat.le_refl _, HR27, HT77⟩
      case round =>
        clear HR7 HL7 HR27 HT77
        obtain ⟨seenS, S2, hR, hL, hS2, hlen2, hRn, hT⟩ := hrel
        go_wp2_with (at_next; refine wpList_onext rfl _ rfl rfl hR.out ?_ ?_)
        · intro hall
          go_wp2_with fail
          go_roundg cnt'
          case measure => omega
          case rel =>
            refine ⟨_, S2, hRn, hL, hid (fun t => ?_), by have := HDl.out; omega, hT⟩
            rw [hS2.out t, hS.out t]
            constructor
            · rintro (⟨m, q', s, h1, h2, h3⟩ | ⟨s, h1, h2⟩)
              · exact ⟨m, q', s, h1, .inl h2, h3⟩
              · exact ⟨n, q, s, HQ.out, .inr rfl, h2⟩
            · rintro ⟨m, q', s, h1, h2 | h2, h3⟩
              · exact .inl ⟨m, q', s, h1, h2, h3⟩
              · subst h2
                have h4 := HQ.out
                rw [h1] at h4
                cases h4
                exact .inr ⟨s, hall s t h3, h3⟩
        · intro s u w8 cnt8 hpm hns hR8 hlt8 t8 hsz8 hen
          (try simp only at hns hen)
          unfold encI encS at hen
          have hL8 := hL.out.turned t8 (fun e => HNe.out.1 e.symm)
          obtain ⟨v, w9, lk9, hwr9, hrun9, hL9, t9⟩ := hL8.more u (by have := HDl.out; omega)
          have HL9 := hid hL9
          have HR9 := hid (hR8.turned t9 (fun b hb => (HNe.out.2.2.2.2.1 b hb).2) HNe.out.1)
          have HRn9 := hid ((hRn.out.turned t8 (fun e => HNe.out.2.1 e.symm) (fun e => HNe.out.2.2.1 e.symm)).turned t9 HNe.out.2.2.2.2.2.1 HNe.out.2.2.2.2.2.2)
          have HT9 := hid ((hT.out.trans' t8 (fun k hk e => absurd e (by have := HNe.out.2.2.2.1; omega))).trans' t9 (fun k hk e => absurd e (by have := HLb.out; omega)))
          have HIn : Hid ((s, u) ∈ q.ds) := hid hpm
          clear hpm hns hR8 t8 hL8 hL9 t9 hR hL hRn hT
          go_wp2_with fail
          go_roundg cnt8
          case measure => omega
          case rel =>
            refine ⟨_, u :: S2, HR9, HL9, hid (fun t => ?_), by rw [List.length_cons]; omega, HRn9, HT9⟩
            rw [List.mem_cons, hS2.out t]
            constructor
            · rintro (rfl | h | ⟨s', h1, h2⟩)
              · exact .inr ⟨s, .inr rfl, HIn.out⟩
              · exact .inl h
              · exact .inr ⟨s', .inl h1, h2⟩
            · rintro (h | ⟨s', h1 | h1, h2⟩)
              · exact .inr (.inl h)
              · exact .inr (.inr ⟨s', h1, h2⟩)
              · subst h1
                have hnd := HOk.out.dnd n q HQ.out
                have h3 := mget_mem hnd h2
                have h4 := mget_mem hnd HIn.out
                rw [h3] at h4
                cases h4
                exact .inl rfl
end
end Go.Proofs.YtiohpmcedfbcgacGreatDoor
/- The document's tree: Hold. Conditions: each theorem's own premises. -/
namespace Go.Proofs.YtiohpmcedfbcgacGreatDoor
open Go.RowKit
set_option linter.unusedVariables false
section
variable {w w' w1 w2 w3 wa : World} {rb nm b d c dn : Nat} {T T1 T2 : PT} {B D : Int → Nat} {F : Nat → Prop} {p p' q nn : PN} {n k : Int} {s : ByteArray}
def heldOf (T : PT) (n : Int) : Int := (mget T n).elim 0 fun p => (p.held : Int)
/-- The document's Hold: by is 1, or -1. -/
def rholdE (T : PT) (n z : Int) : Int := if fileE T n ≠ 0 then fileE T n else if heldOf T n + z < 0 then 10 else 0
def rholdT (T : PT) (n z : Int) : PT := if rholdE T n z = 0 then sweptT (updN T n fun p => { p with held := (p.held + z).toNat }) else T
theorem rfoot_swept (hok : TOk T) (k : Nat) (hk : RFoot rb nm (sweptT T) D k) : RFoot rb nm T D k := by
  rcases hk with h | h | ⟨m, r, hr, hrd, h⟩
  · exact .inl h
  · exact .inr (.inl h)
  · exact .inr (.inr ⟨m, r, mget_mem hok.nd (List.mem_filter.1 (mem_of_mget hr)).1, hrd, h⟩)
set_option maxHeartbeats 4000000 in
set_option maxRecDepth 100000 in
theorem rhold_is (h : RTreeIn w rb nm T D) (hok : TOk T) (n z : Int) (hz1 : -1 ≤ z ∧ z ≤ 1) (hb : ∀ n p, mget T n = some p → p.ds.length ≤ 1000000 ∧ p.held ≤ 1000000000) :
    Calls Tryz.prog 107 #[.pointer (some ⟨rb, 0, none⟩), .int .i64 n, .int .i64 z] w fun e w' => e = .returned (.int .i64 (rholdE T n z)) ∧ RTreeTo rb (RFoot rb nm T D) w w' (rholdT T n z) := by
  have H := hid h
  have HOk := hid hok
  have HB := hid hb
  have HF := hid (rfile_is h n)
  have HSame : Hid (rholdE T n z ≠ 0 → ∀ w', Turn (fun _ => False) w w' → RTreeTo rb (RFoot rb nm T D) w w' (rholdT T n z)) := hid (fun hz w' tt => by
    have : rholdT T n z = T := if_neg hz
    rw [this]
    exact RTreeTo.same ⟨nm, D, H.out, rfl⟩ tt)
  clear h hok hb
  go_enter Tryz.func107, Tryz.ntmps107
  go_wp2_with fail
  refine HF.out.mono ?_
  rintro e w1 ⟨rfl, t1⟩
  have HT1 := hid t1
  by_cases hz : fileE T n = 0
  · obtain ⟨p, hn, hd⟩ := fileE_zero hz
    have h1 := H.out.turned t1 (fun _ _ => id)
    have hh := h1.hdr
    have lk := h1.look hn
    rw [hd] at lk
    simp only [Bool.false_eq_true, if_false] at lk
    have hho : heldOf T n = p.held := by unfold heldOf; rw [hn]; rfl
    have hbd := (HB.out n p hn).2
    have h00 : ¬ (fileE T n ≠ 0) := fun e => e hz
    have HN := hid hn
    have HD := hid hd
    have hwr : IntKind.i64.wrap ((p.held : Int) + z) = p.held + z := IntWalk.i64_in _ (by omega)
    rw [hz]
    by_cases hs : (p.held : Int) + z < 0
    · have hE : rholdE T n z = 10 := by unfold rholdE; rw [if_neg h00, hho, if_pos hs]
      have HR := hid (fun w' (tt : Turn (fun _ => False) w1 w') => HSame.out (by rw [hE]; decide) w' (HT1.out.trans tt))
      have HE := hid hE
      clear hn hd hz h1 t1 h00 hho hE
      go_wp2_with fail
      go_returns
      rw [HE.out]
      exact ⟨rfl, HR.out _ ((Turn.refl _ _).alloc _)⟩
    · have hE : rholdE T n z = 0 := by unfold rholdE; rw [if_neg h00, hho, if_neg hs]
      obtain ⟨hn2, hh2⟩ : ∃ m : Nat, (p.held : Int) + z = m := ⟨((p.held : Int) + z).toNat, by omega⟩
      have hT : rholdT T n z = sweptT (mput T n { p with held := hn2 }) := by
        unfold rholdT
        rw [if_pos hE, updN_is hn, show ((p.held : Int) + z).toNat = hn2 by omega]
      obtain ⟨W, hW⟩ : ∃ W, w1.alloc (.cells #[.map none, .bool false, .string p.data, .int .i64 ((p.held : Int) + z)] 179) = W := ⟨_, rfl⟩
      have tW : Turn (fun _ => False) w1 W := by rw [← hW]; exact (Turn.refl _ _).alloc _
      have hhW := (h1.turned tW (fun _ _ => id)).hdr
      obtain ⟨w3, hrun, hin3, t3, hf3⟩ := rstore_fin h1 hn hd { p with held := hn2 } hd rfl tW.drew
      have hok3 : TOk (mput T n { p with held := hn2 }) := HOk.out.upd hn rfl rfl rfl (HOk.out.data n p hn)
      have hb3 : ∀ m q, mget (mput T n { p with held := hn2 }) m = some q → q.ds.length ≤ 1000000 := fun m q hq => by
        rcases put_get (q' := { p with held := hn2 }) hn m q hq with ⟨_, rfl⟩ | ⟨_, h2⟩
        · exact (HB.out n p hn).1
        · exact (HB.out m q h2).1
      have HSw := hid (rsweep_is hin3 hok3 hb3)
      have HTo : Hid (∀ w4, RTreeIn w4 rb nm (sweptT (mput T n { p with held := hn2 })) D → Turn (fun k => k = nm) w3 w4 → RTreeTo rb (RFoot rb nm T D) w w4 (rholdT T n z)) := hid (fun w4 h4 t4 => by
        rw [hT]
        exact ⟨_, ⟨nm, D, h4, rfl⟩, ((HT1.out.mono (fun _ _ h => h.elim)).trans t3).trans (t4.mono (fun j _ e => .inr (.inl e))), fun j hj => .inl (hf3 j (rfoot_swept hok3 j hj)), fun v hv => h4.hdr.trans (H.out.hdr.symm.trans hv)⟩)
      have HE := hid hE
      simp only at hrun
      rw [← hh2] at hrun
      rw [← hW] at hhW hrun
      clear hn hd hz h1 t1 h00 hho hE hT hin3 t3 hf3 tW hW hok3 hb3 hh2
      go_wp2_with fail
      go_region
      all_goals go_wp2_with fail
      all_goals refine HSw.out.mono ?_
      all_goals rintro e w4 ⟨rfl, h4, t4⟩
      all_goals have HFin := hid (HTo.out w4 h4 t4)
      all_goals clear h4 t4
      all_goals go_wp2_with fail
      all_goals go_returns
      all_goals rw [HE.out]
      all_goals exact ⟨rfl, HFin.out⟩
  · have hE : rholdE T n z = fileE T n := if_pos hz
    have HR := hid (HSame.out (by rw [hE]; exact hz) w1 t1)
    have hzn : (fileE T n != 0) = true := by simpa using hz
    have HE := hid hE
    generalize fileE T n = zz at *
    clear hz hE t1
    go_wp2_with fail
    go_returns
    rw [HE.out]
    exact ⟨rfl, HR.out⟩
end
end Go.Proofs.YtiohpmcedfbcgacGreatDoor
/- The document's tree: Unlink. Conditions: each theorem's own premises. -/
namespace Go.Proofs.YtiohpmcedfbcgacGreatDoor
open Go.RowKit
set_option linter.unusedVariables false
section
variable {w w' w1 w2 w3 wa : World} {rb nm b d c dn : Nat} {T T1 T2 : PT} {B D : Int → Nat} {F : Nat → Prop} {p p' q nn : PN} {n k : Int} {s : ByteArray}
/-- The document's Unlink: a name less, and what nobody has goes. -/
def runlinkT (T : PT) (path : ByteArray) : PT :=
  if unlinkE T path = 0 then (mget (dsT T (placeT T path).2.1) (placeT T path).2.2).elim T fun n =>
    sweptT (updN (updN T (placeT T path).2.1 fun p => { p with ds := mdel p.ds (placeT T path).2.2 }) n fun q => { q with names := q.names - 1 })
  else T
set_option maxHeartbeats 4000000 in
set_option maxRecDepth 100000 in
theorem runlink_is (h : RTreeIn w rb nm T D) (hok : TOk T) (path : ByteArray) (hs : path.size < 4294967281) (hb : ∀ n p, mget T n = some p → p.ds.length ≤ 1000000) :
    Calls Tryz.prog 101 #[.pointer (some ⟨rb, 0, none⟩), .string path] w fun e w' => e = .returned (.int .i64 (unlinkE T path)) ∧ RTreeTo rb (RFoot rb nm T D) w w' (runlinkT T path) := by
  have H := hid h
  have HOk := hid hok
  have HB := hid hb
  have f0 := @rfld0
  have HP := hid (rplace_is h hok path hs)
  have HSame : Hid (unlinkE T path ≠ 0 → ∀ w', Turn (fun _ => False) w w' → RTreeTo rb (RFoot rb nm T D) w w' (runlinkT T path)) := hid (fun hz w' tt => by
    have : runlinkT T path = T := if_neg hz
    rw [this]
    exact RTreeTo.same ⟨nm, D, H.out, rfl⟩ tt)
  clear h hok hb
  go_enter Tryz.func101, Tryz.ntmps101
  go_wp2_with fail
  refine HP.out.mono ?_
  rintro e w1 ⟨⟨hz, rfl⟩ | ⟨d, p, s, hpl, hd, hdir, rfl⟩, t1⟩
  · have hE : unlinkE T path = (placeT T path).1 := if_pos hz
    have HR := hid (HSame.out (by rw [hE]; exact hz) w1 t1)
    have hzn : ((placeT T path).1 != 0) = true := by simpa using hz
    have HE := hid hE
    generalize (placeT T path).1 = zz at *
    clear hz hE t1
    go_wp2_with fail
    go_returns
    rw [HE.out]
    exact ⟨rfl, HR.out⟩
  · have h1 := H.out.turned t1 (fun _ _ => id)
    have H1 := hid h1
    have HT1 := hid t1
    have hds : dsT T d = p.ds := by unfold dsT; rw [hd]; rfl
    have hdm := h1.dir d p hd hdir
    have ln := look_name hdm s
    have hh := h1.hdr
    have HD := hid hd
    have HDr := hid hdir
    have HPl := hid hpl
    have HDs := hid hds
    cases hms : mget p.ds s with
    | none =>
      rw [hms] at ln
      simp only [Option.getD_none, Option.isSome_none] at ln
      have hE : unlinkE T path = 7 := by
        unfold unlinkE
        rw [hpl, if_neg (by simp)]
        simp only
        rw [hds, hms]; rfl
      have HR := hid (HSame.out (by rw [hE]; decide) w1 t1)
      have HE := hid hE
      clear h1 hds hdm hms t1 hpl hd hdir hE
      go_wp2_with fail
      go_returns
      rw [HE.out]
      exact ⟨rfl, HR.out⟩
    | some n =>
      rw [hms] at ln
      simp only [Option.getD_some, Option.isSome_some] at ln
      obtain ⟨q, hq⟩ := HOk.out.link d p hd s n hms
      have lk := h1.look hq
      have hdq : dsT T n = q.ds := by unfold dsT; rw [hq]; rfl
      have hbq := HB.out n q hq
      obtain ⟨m, hm⟩ : ∃ m, (if q.isDir = true then some (D n) else none) = m := ⟨_, rfl⟩
      obtain ⟨bq, hbq2⟩ : ∃ bq, q.isDir = bq := ⟨_, rfl⟩
      have hl : ∀ ty, (Builtin.len_ #[166] ty #[.map m]).run Tryz.prog w1 = .ok (.int .i64 (q.ds.length : Int)) w1 := by
        rw [← hm]
        cases hqd : q.isDir with
        | true => exact fun ty => (h1.dir n q hq hqd).run_len Tryz.underlying166 ty
        | false => exact fun ty => by rw [HOk.out.file n q hq hqd]; exact len_nil_map w1 ty
      rw [hm, hbq2] at lk
      have HQ := hid hq
      have HMs := hid hms
      have hE0 : unlinkE T path = if dsT T n ≠ [] then 6 else 0 := by
        unfold unlinkE
        rw [hpl, if_neg (by simp)]
        simp only
        rw [hds, hms]; rfl
      by_cases h0 : q.ds.length = 0
      · have hnil : q.ds = [] := List.length_eq_zero_iff.1 h0
        have hE : unlinkE T path = 0 := by rw [hE0, if_neg (by rw [hdq]; exact fun e => e hnil)]
        have hne : n ≠ d := fun e => by
          rw [e, hd] at hq
          cases hq
          rw [hnil] at hms
          cases hms
        have hT : runlinkT T path = sweptT (mput (mput T d { p with ds := mdel p.ds s }) n { q with names := q.names - 1 }) := by
          unfold runlinkT
          rw [if_pos hE, hpl]
          simp only
          rw [hds, hms, updN_is hd]
          show sweptT (updN (mput T d { p with ds := mdel p.ds s }) n _) = _
          rw [updN_is (p := q) (by rw [mget_mput, if_neg hne]; exact hq)]
        have hl0 : ∀ ty, (Builtin.len_ #[166] ty #[.map m]).run Tryz.prog w1 = .ok (.int .i64 0) w1 := fun ty => by rw [hl ty, h0]; rfl
        obtain ⟨w3, hrun, hm3, t3⟩ := hdm.run_delete (P := Tryz.prog) (ty := 0) keyS Tryz.underlying166 Tryz.underlying9 s
        replace hrun : (Builtin.delete_ #[166, 9] 0 #[.map (some (D d)), .string s]).run Tryz.prog w1 = .ok (.tuple #[]) w3 := hrun
        have hin3 := h1.name HOk.out.nd hd hdir hm3 t3
        have hq3 : mget (mput T d { p with ds := mdel p.ds s }) n = some q := by rw [mget_mput, if_neg hne]; exact hq
        have hin4 := hin3.count (mput_nodup HOk.out.nd d _) hq3 (q.names - 1)
        have hok4 := HOk.out.unlink_ hd hdir hq hne hms
        have hb4 : ∀ m r, mget (mput (mput T d { p with ds := mdel p.ds s }) n { q with names := q.names - 1 }) m = some r → r.ds.length ≤ 1000000 := fun m r hr => by
          rcases put_get (q' := { q with names := q.names - 1 }) hq3 m r hr with ⟨_, rfl⟩ | ⟨_, h2⟩
          · exact hbq
          · rcases put_get (q' := { p with ds := mdel p.ds s }) hd m r h2 with ⟨_, rfl⟩ | ⟨_, h3⟩
            · have h5 := HB.out d p hd
              have h6 : (mdel p.ds s).length ≤ p.ds.length := List.length_filter_le _ _
              show (mdel p.ds s).length ≤ 1000000
              omega
            · exact HB.out m r h3
        have HSw := hid (rsweep_is hin4 hok4 hb4)
        have HTo : Hid (∀ w4, RTreeIn w4 rb nm (sweptT (mput (mput T d { p with ds := mdel p.ds s }) n { q with names := q.names - 1 })) D → Turn (fun k => k = nm) w3 w4 → RTreeTo rb (RFoot rb nm T D) w w4 (runlinkT T path)) := hid (fun w4 h4 t4 => by
          rw [hT]
          exact ⟨_, ⟨nm, D, h4, rfl⟩, ((HT1.out.mono (fun _ _ h => h.elim)).trans (t3.mono (fun j _ e => .inr (.inr ⟨d, p, HD.out, HDr.out, e⟩)))).trans (t4.mono (fun j _ e => .inr (.inl e))), fun j hj => .inl (rfoot_put (q' := { p with ds := mdel p.ds s }) HD.out rfl j (rfoot_put (q' := { q with names := q.names - 1 }) hq3 rfl j (rfoot_swept hok4 j hj))), fun v hv => h4.hdr.trans (H.out.hdr.symm.trans hv)⟩)
        have HE := hid hE
        clear h1 hds hdm hms t1 hpl hd hdir hE hE0 hne hT hm3 t3 hin3 hq3 hin4 hok4 hdq hl h0 hnil hq hbq hb4 hm hbq2
        go_wp2_with fail
        refine HSw.out.mono ?_
        rintro e w4 ⟨rfl, h4, t4⟩
        have HFin := hid (HTo.out w4 h4 t4)
        clear h4 t4
        go_wp2_with fail
        go_returns
        rw [HE.out]
        exact ⟨rfl, HFin.out⟩
      · have hE : unlinkE T path = 6 := by rw [hE0, if_pos (by rw [hdq]; exact fun e => h0 (by rw [e]; rfl))]
        have HR := hid (HSame.out (by rw [hE]; decide) w1 t1)
        have HE := hid hE
        have hpos : (0 : Int) < q.ds.length := by omega
        clear h1 hds hdm hms t1 hpl hd hdir hE hE0 hdq h0 hq hm hbq2
        go_wp2_with fail
        go_returns
        rw [HE.out]
        exact ⟨rfl, HR.out⟩
end
end Go.Proofs.YtiohpmcedfbcgacGreatDoor
/- The document's sweep takes what the program's own counts let go: plain. Conditions: each theorem's own premises. -/
namespace Go.Proofs.YtiohpmcedfbcgacGreatDoor
open Go.RowKit
set_option linter.unusedVariables false
section
variable {T : PT} {p q : PN} {n d : Int} {s : ByteArray}
/-- Each node has a name, or is held. -/
def Alive (T : PT) : Prop := ∀ n p, mget T n = some p → p.names ≠ 0 ∨ p.held ≠ 0
theorem links_ledL (n : Int) : 0 < linksT n T ↔ n ∈ ledL T := by
  unfold ledL
  rw [List.mem_flatMap]
  constructor
  · intro h
    obtain ⟨t, ht, h1⟩ := linksT_some h
    obtain ⟨s, hs⟩ := linksIn_some h1
    exact ⟨t, ht, List.mem_map.2 ⟨(s, n), hs, rfl⟩⟩
  · rintro ⟨t, ht, h⟩
    obtain ⟨⟨s, u⟩, h1, h2⟩ := List.mem_map.1 h
    simp only at h2
    subst h2
    have h3 := linksT_ge (n := u) ht
    have h4 : 0 < linksIn u t.2.ds := List.length_pos_of_mem (List.mem_filter.2 ⟨h1, by simp⟩)
    omega
theorem keepB_eq (hok : TOk T) (hn : mget T n = some p) : keepB T (n, p) = (decide (p.names ≠ 0) || decide (p.held ≠ 0)) := by
  unfold keepB
  have h1 := hok.cnt n p hn
  have h2 := links_ledL (T := T) n
  congr 1
  refine decide_eq_decide.2 ?_
  show (n = 0 ∨ n ∈ ledL T) ↔ p.names ≠ 0
  rw [← h2]
  by_cases e : n = 0
  · rw [if_pos e] at h1
    exact ⟨fun _ => by omega, fun _ => .inl e⟩
  · rw [if_neg e] at h1
    exact ⟨fun h => by rcases h with h | h <;> omega, fun h => .inr (by omega)⟩
theorem swept_gone (hok : TOk T) (hn : mget T n = some p) (ha : ∀ m q, m ≠ n → mget T m = some q → q.names ≠ 0 ∨ q.held ≠ 0) : sweptT T = goneT T n p := by
  have hkp : ∀ t ∈ T, t.1 ≠ n → keepB T t = true := fun t ht e => by
    have h1 := mget_mem hok.nd ht
    have h2 := keepB_eq hok h1
    have h3 : keepB T t = _ := h2
    rw [h3]
    rcases ha t.1 t.2 e h1 with h | h <;> simp [h]
  have hkn : ∀ t ∈ T, t.1 = n → keepB T t = (decide (p.names ≠ 0) || decide (p.held ≠ 0)) := fun t ht e => by
    have h1 := mget_mem hok.nd ht
    rw [e, hn] at h1
    have : t = (n, p) := by rw [← e]; exact Prod.ext rfl (Option.some.inj h1).symm
    rw [this]
    exact keepB_eq hok hn
  unfold goneT sweptT
  by_cases h : p.names = 0 ∧ p.held = 0
  · rw [if_pos h]
    unfold mdel
    refine List.filter_congr fun t ht => ?_
    by_cases e : t.1 = n
    · rw [hkn t ht e]; simp [e, h.1, h.2]
    · rw [hkp t ht e]; simp [e]
  · rw [if_neg h]
    refine List.filter_eq_self.2 fun t ht => ?_
    by_cases e : t.1 = n
    · rw [hkn t ht e]
      by_cases h1 : p.names = 0
      · have h2 : p.held ≠ 0 := fun e2 => h ⟨h1, e2⟩
        simp [h2]
      · simp [h1]
    · exact hkp t ht e
theorem rhold_one (hok : TOk T) (ha : Alive T) (n : Int) : rholdE T n 1 = fileE T n ∧ rholdT T n 1 = holdT T n := by
  have hE : rholdE T n 1 = fileE T n := by
    unfold rholdE
    by_cases h : fileE T n = 0
    · rw [if_neg (fun e => e h), if_neg (by unfold heldOf; cases mget T n <;> simp only [Option.elim] <;> omega), h]
    · rw [if_pos h]
  refine ⟨hE, ?_⟩
  unfold rholdT
  rw [hE]
  by_cases h : fileE T n = 0
  · obtain ⟨p, hn, hd⟩ := fileE_zero h
    rw [if_pos h, updN_is hn]
    unfold holdT
    rw [hn]
    simp only [Option.elim]
    rw [if_neg (show ¬ p.isDir = true by rw [hd]; decide)]
    rw [show ((p.held : Int) + 1).toNat = p.held + 1 by omega]
    have hok2 : TOk (mput T n { p with held := p.held + 1 }) := hok.upd hn rfl rfl rfl (hok.data n p hn)
    rw [swept_gone hok2 (n := n) (p := { p with held := p.held + 1 }) (by rw [mget_mput, if_pos rfl]) (fun m q hm hq => by rw [mget_mput, if_neg hm] at hq; exact ha m q hq)]
    unfold goneT
    rw [if_neg (fun e => by have := e.2; simp at this)]
  · rw [if_neg h]
    unfold holdT
    unfold fileE at h
    cases hn : mget T n with
    | none => rfl
    | some p =>
      rw [hn] at h
      simp only [Option.elim] at h ⊢
      cases hd : p.isDir with
      | true => rfl
      | false => rw [hd] at h; simp at h
theorem rhold_drop (hok : TOk T) (ha : Alive T) (n : Int) : rholdE T n (-1) = dropE T n ∧ rholdT T n (-1) = dropT T n := by
  cases hn : mget T n with
  | none =>
    have hf : fileE T n = 7 := by unfold fileE; rw [hn]; rfl
    have hE : rholdE T n (-1) = 7 := by unfold rholdE; rw [hf, if_pos (by decide)]
    have hT : rholdT T n (-1) = T := if_neg (by rw [hE]; decide)
    rw [hE, hT]
    unfold dropE dropT
    rw [hn]
    exact ⟨rfl, rfl⟩
  | some p =>
    have hf : fileE T n = if p.isDir then 6 else 0 := by unfold fileE; rw [hn]; rfl
    have hh : heldOf T n = p.held := by unfold heldOf; rw [hn]; rfl
    have hdE : dropE T n = if p.isDir then 6 else if p.held = 0 then 10 else 0 := by unfold dropE; rw [hn]; rfl
    have hdT : dropT T n = if p.isDir then T else if p.held = 0 then T else goneT (mput T n { p with held := p.held - 1 }) n { p with held := p.held - 1 } := by unfold dropT; rw [hn]; rfl
    by_cases hd : p.isDir = true
    · rw [if_pos hd] at hf hdE hdT
      have hE : rholdE T n (-1) = 6 := by unfold rholdE; rw [hf, if_pos (by decide)]
      have hT : rholdT T n (-1) = T := if_neg (by rw [hE]; decide)
      exact ⟨hE.trans hdE.symm, hT.trans hdT.symm⟩
    · rw [if_neg hd] at hf hdE hdT
      by_cases h0 : p.held = 0
      · rw [if_pos h0] at hdE hdT
        have hE : rholdE T n (-1) = 10 := by unfold rholdE; rw [hf, hh, if_neg (by decide), if_pos (by omega)]
        have hT : rholdT T n (-1) = T := if_neg (by rw [hE]; decide)
        exact ⟨hE.trans hdE.symm, hT.trans hdT.symm⟩
      · rw [if_neg h0] at hdE hdT
        have hE : rholdE T n (-1) = 0 := by unfold rholdE; rw [hf, hh, if_neg (by decide), if_neg (by omega)]
        refine ⟨hE.trans hdE.symm, ?_⟩
        rw [hdT]
        unfold rholdT
        rw [if_pos hE, updN_is hn, show ((p.held : Int) + -1).toNat = p.held - 1 by omega]
        have hok2 : TOk (mput T n { p with held := p.held - 1 }) := hok.upd hn rfl rfl rfl (hok.data n p hn)
        exact swept_gone hok2 (by rw [mget_mput, if_pos rfl]) (fun m q hm hq => by rw [mget_mput, if_neg hm] at hq; exact ha m q hq)
theorem runlink_same (hok : TOk T) (ha : Alive T) (path : ByteArray) : runlinkT T path = unlinkT T path := by
  unfold runlinkT unlinkT
  by_cases hE : unlinkE T path = 0
  · rw [if_pos hE, if_pos hE]
    obtain ⟨d, hd⟩ : ∃ d, (placeT T path).2.1 = d := ⟨_, rfl⟩
    obtain ⟨s, hs⟩ : ∃ s, (placeT T path).2.2 = s := ⟨_, rfl⟩
    rw [hd, hs]
    cases hms : mget (dsT T d) s with
    | none => rfl
    | some n =>
      simp only [Option.elim]
      cases hp : mget T d with
      | none => unfold dsT at hms; rw [hp] at hms; simp [mget] at hms
      | some p =>
        have hms2 : mget p.ds s = some n := by unfold dsT at hms; rw [hp] at hms; exact hms
        have hdir : p.isDir = true := by
          cases hpd : p.isDir with
          | true => rfl
          | false => rw [hok.file d p hp hpd] at hms2; cases hms2
        obtain ⟨q, hq⟩ := hok.link d p hp s n hms2
        have hqn : dsT T n = [] := by
          by_cases e : dsT T n = []
          · exact e
          · exfalso
            unfold unlinkE at hE
            by_cases e2 : (placeT T path).1 ≠ 0
            · rw [if_pos e2] at hE; exact e2 hE
            · rw [if_neg e2, hd, hs, hms] at hE
              simp only [Option.elim] at hE
              rw [if_pos e] at hE
              cases hE
        have hne : n ≠ d := fun e => by
          rw [e] at hqn
          rw [hqn] at hms
          cases hms
        rw [hq, updN_is hp, updN_is (p := q) (by rw [mget_mput, if_neg hne]; exact hq)]
        have hok4 := hok.unlink_ hp hdir hq hne hms2
        refine swept_gone hok4 (by rw [mget_mput, if_pos rfl]) (fun m r hm hr => ?_)
        rw [mget_mput, if_neg hm, mget_mput] at hr
        by_cases e : m = d
        · rw [if_pos e] at hr
          cases hr
          exact ha d p hp
        · rw [if_neg e] at hr
          exact ha m r hr
  · rw [if_neg hE, if_neg hE]
end
end Go.Proofs.YtiohpmcedfbcgacGreatDoor
