/- TreePlays walked: true, and nothing that was there turns. Conditions: the variable errors.errorType holds what is laid; the arguments lie in memory. -/
import Derived.Test.YtiohpmcedfbcgacGreatDoorTreeNames
import Derived.Test.YtiohpmcedfbcgacGreatDoorTreeFilesLaw
import Derived.Deep.LoopGhost
import Derived.Deep.QuietTactic
import Derived.BigQuiet
namespace Go.Proofs.YtiohpmcedfbcgacGreatDoor
open Go.RowKit
set_option linter.unusedVariables false
abbrev Nm := Int × Int × Int × ByteArray × ByteArray
def NmsAt (w : World) (b off : Nat) (xs : List Nm) : Prop := ∀ (j : Nat) x, xs[j]? = some x →
  w.cell? ⟨b, off + j * 5, none⟩ = some (.int .i64 x.1) ∧ w.cell? ⟨b, off + j * 5 + 1, none⟩ = some (.int .i64 x.2.1) ∧ w.cell? ⟨b, off + j * 5 + 2, none⟩ = some (.int .i64 x.2.2.1) ∧ w.cell? ⟨b, off + j * 5 + 3, none⟩ = some (.string x.2.2.2.1) ∧ w.cell? ⟨b, off + j * 5 + 4, none⟩ = some (.string x.2.2.2.2)
theorem NmsAt.turned {W w : World} {b off : Nat} {xs : List Nm} {S : Nat → Prop} (h : NmsAt W b off xs) (t : Turn S W w) (hb : b < W.heap.size) (hn : ¬ S b) : NmsAt w b off xs := fun j x hx => by
  obtain ⟨h0, h1, h2, h3, h4⟩ := h j x hx
  exact ⟨(t.cell (a := ⟨b, _, none⟩) hb hn).trans h0, (t.cell (a := ⟨b, _, none⟩) hb hn).trans h1, (t.cell (a := ⟨b, _, none⟩) hb hn).trans h2, (t.cell (a := ⟨b, _, none⟩) hb hn).trans h3, (t.cell (a := ⟨b, _, none⟩) hb hn).trans h4⟩
set_option maxRecDepth 100000 in
theorem tplays_many (z : Int) (a : Option Addr) (len cap : Nat) (w : World) (hm : 60 < len) (hl : len ≤ 9223372036854775807) :
    Calls Tryz.prog 5 #[.int .i64 z, .slice a len cap] w fun e w' => e = .returned (.bool true) ∧ Turn (fun _ => False) w w' := by
  have hm' : (60 : Int) < len := by omega
  clear hm
  go_enter Tryz.func5, Tryz.ntmps5
  go_wp2_with fail
  go_ret
  exact ⟨rfl, Turn.refl _ _⟩
theorem fill_num (z : Int) : ∃ M : Nat, M < 62 ∧ wrap64 ((IntKind.u64.wrap z).tmod 62) = M := by
  have h3 : 0 ≤ IntKind.u64.wrap z := by
    have e : IntKind.u64.wrap z = z % 18446744073709551616 := rfl
    rw [e]; omega
  have h4 : (IntKind.u64.wrap z).tmod 62 = IntKind.u64.wrap z % 62 := Int.tmod_eq_emod_of_nonneg h3
  rw [h4]
  exact ⟨(IntKind.u64.wrap z % 62).toNat, by omega, by rw [IntWalk.wrap64_in _ (by omega)]; omega⟩
set_option maxHeartbeats 40000000 in
set_option maxRecDepth 100000 in
theorem tplays_few (z : Int) (a : Option Addr) (xs : List Nm) (cap : Nat) (W : World) (hL : Laid W) (hl : xs.length ≤ 60)
    (hc : xs ≠ [] → ∃ b off, a = some ⟨b, off, none⟩ ∧ NmsAt W b off xs ∧ b < W.heap.size) :
    Calls Tryz.prog 5 #[.int .i64 z, .slice a xs.length cap] W fun e w' => e = .returned (.bool true) ∧ Turn (fun _ => False) W w' := by
  have HC := hid hc
  have HL := hid hL
  have hm' : ¬ (60 : Int) < xs.length := by omega
  obtain ⟨M, hM, hMe⟩ := fill_num z
  clear hc hL
  have HMe := hid hMe
  clear hMe
  go_enter Tryz.func5, Tryz.ntmps5
  go_wp2_with fail
  refine (law_new W).mono ?_
  rintro e w1 ⟨tb, rfl, h1⟩
  have H1 := hid h1
  clear h1
  go_wp2_with fail
  refine (rtreeNew_is w1).mono ?_
  intro e w2 h2
  obtain ⟨rb, nm, rfl, hT⟩ := TwoT.first H1.out h2
  have HT := hid hT
  clear hT h2
  go_wp2_with fail
  go_loopg [7] (M) (fun gl i wr => ∃ (j : Nat) (T : PT), j + gl = M ∧ i = .int .i64 j ∧ Hid (TwoT W wr tb rb nm T (1 + 2 * j)))
  case atStart => exact ⟨0, _, by omega, rfl, HT⟩
  case round =>
    clear HT
    obtain ⟨j, T, hj, rfl, hT⟩ := hrel
    by_cases hlt : j < M
    · have hlt' : (j : Int) < M := by omega
      have hM2 := HMe.out
      obtain ⟨b, hb⟩ : ∃ b : UInt8, (b.toNat : Int) = 65 + j := ⟨UInt8.ofNat (65 + j), by rw [UInt8.toNat_ofNat']; omega⟩
      have hB : BytesAt (wr.alloc (.cells #[.int .u8 (65 + (j : Int))] 5)) wr.heap.size 1 [b] := by
        refine ⟨by simp, fun i x hx => ?_, fun i hi => ?_, fun i hi => World.frozen?_alloc_new _ _ _ _, by simp⟩
        · cases i with
          | zero => simp at hx; subst hx; rw [World.cell?_alloc_mark]; unfold byteV; rw [hb]; rfl
          | succ i => simp at hx
        · obtain rfl : i = 0 := by omega
          simp
      have hbk := bytes_back (P := Tryz.prog) hB 58 9 5 1 Tryz.underlying58 Tryz.underlying5 Tryz.underlying9
      simp only [List.length_singleton] at hbk
      obtain ⟨Z, hZ⟩ : ∃ Z : ByteArray, Z = ⟨[b].toArray⟩ := ⟨_, rfl⟩
      have hZs : Z.size = 1 := by rw [hZ]; rfl
      rw [← hZ] at hbk
      have hSs : ((⟨#[47, 102]⟩ : ByteArray) ++ Z).size ≤ 250 := by rw [ByteArray.size_append, hZs]; decide
      have hZb : Z.size ≤ 1 := by omega
      obtain ⟨F, G, hF, _⟩ := (hT.out.still ((Turn.refl (fun _ => False) wr).alloc (.cells #[.int .u8 (65 + (j : Int))] 5))).open_
      have HNm := hid (lnames_is hF (by omega) (by omega) HL.out 2 0 0 (⟨#[47, 102]⟩ ++ Z) ⟨#[]⟩ hSs (by decide))
      clear hB hZ hb hZs hSs hF
      go_wp2_with fail
      refine HNm.out.mono ?_
      rintro e w6 ⟨rfl, T', hT', _⟩
      have HT' := hid hT'
      clear hT' hbk
      go_wp2_with fail
      go_roundg (gk - 1)
      case measure => omega
      case rel => exact ⟨j + 1, T', by omega, by go_num, hid (HT'.out.mono (by omega))⟩
    · have hlt' : ¬ (j : Int) < M := by omega
      have hM2 := HMe.out
      go_wp2_with fail
      clear hM2 HMe hlt' hlt
      have HT0 := hid (hT.out.mono (k' := 200) (by omega))
      clear hT hj
      go_loopg [8] (xs.length) (fun gl i wr => ∃ (j : Nat) (T : PT), j + gl = xs.length ∧ i = .int .i64 j ∧ Hid (TwoT W wr tb rb nm T (200 + 2 * j)))
      case atStart => exact ⟨0, T, by omega, rfl, HT0⟩
      case round =>
        clear HT0
        obtain ⟨j, T, hj, rfl, hT⟩ := hrel
        by_cases hlt : j < xs.length
        · have hlt' : (j : Int) < xs.length := by omega
          obtain ⟨⟨x0, x1, x2, x3, x4⟩, hx⟩ : ∃ x, xs[j]? = some x := ⟨_, List.getElem?_eq_getElem hlt⟩
          obtain ⟨b, off, rfl, hO, hb⟩ := HC.out (by rintro rfl; simp at hlt)
          obtain ⟨d0, d1, d2, d3, d4⟩ := hO.turned hT.out.turn hb id j _ hx
          simp only at d0 d1 d2 d3 d4
          clear hO hx
          obtain ⟨pb, hpb⟩ : ∃ pb, pb = wr.heap.size := ⟨_, rfl⟩
          have T1 : Turn (fun _ => False) wr (wr.alloc (.cells #[.int .i64 x0, .int .i64 x1, .int .i64 x2, .string x3, .string x4] 60)) := (Turn.refl _ _).alloc _
          have c0 : (wr.alloc (.cells #[.int .i64 x0, .int .i64 x1, .int .i64 x2, .string x3, .string x4] 60)).cell? ⟨pb, 0, none⟩ = some (.int .i64 x0) := by rw [hpb]; simp
          have c1 : (wr.alloc (.cells #[.int .i64 x0, .int .i64 x1, .int .i64 x2, .string x3, .string x4] 60)).cell? ⟨pb, 1, none⟩ = some (.int .i64 x1) := by rw [hpb]; simp
          have c2 : (wr.alloc (.cells #[.int .i64 x0, .int .i64 x1, .int .i64 x2, .string x3, .string x4] 60)).cell? ⟨pb, 2, none⟩ = some (.int .i64 x2) := by rw [hpb]; simp
          have c3 : (wr.alloc (.cells #[.int .i64 x0, .int .i64 x1, .int .i64 x2, .string x3, .string x4] 60)).cell? ⟨pb, 3, none⟩ = some (.string x3) := by rw [hpb]; simp
          have c4 : (wr.alloc (.cells #[.int .i64 x0, .int .i64 x1, .int .i64 x2, .string x3, .string x4] 60)).cell? ⟨pb, 4, none⟩ = some (.string x4) := by rw [hpb]; simp
          obtain ⟨F, G, hF, hlt6⟩ := hT.out.open_
          have HT1 := hid (hF.still T1)
          have HPb : Hid (¬ (F pb ∨ G pb)) := hid (fun e => by have := hlt6 pb e; omega)
          clear hT T1 hF hlt6
          go_upto_region 15 with fail
          rw [← hpb]
          generalize wr.alloc (.cells #[.int .i64 x0, .int .i64 x1, .int .i64 x2, .string x3, .string x4] 60) = W2 at *
          clear d0 d1 d2 d3 d4 hpb
          by_cases l3 : 250 < x3.size
          · have l3' : (250 : Int) < x3.size := by omega
            clear l3
            go_wp2_with fail
            go_roundg (gk - 1)
            case measure => omega
            case rel => exact ⟨j + 1, T, by omega, by go_num, hid (HT1.out.shut.mono (by omega))⟩
          · have l3' : ¬ (250 : Int) < x3.size := by omega
            by_cases l4 : 100 < x4.size
            · have l4' : (100 : Int) < x4.size := by omega
              clear l3 l4
              go_wp2_with fail
              go_roundg (gk - 1)
              case measure => omega
              case rel => exact ⟨j + 1, T, by omega, by go_num, hid (HT1.out.shut.mono (by omega))⟩
            · have l4' : ¬ (100 : Int) < x4.size := by omega
              have HTd := hid (HT1.out.still (Turn.refl (fun _ => False) W2).drew)
              have k0 := ((Turn.refl (fun _ => False) W2).drew.cell (a := ⟨pb, 0, none⟩) (lt_of_cell c0) id).trans c0
              have k1 := ((Turn.refl (fun _ => False) W2).drew.cell (a := ⟨pb, 1, none⟩) (lt_of_cell c1) id).trans c1
              have k2 := ((Turn.refl (fun _ => False) W2).drew.cell (a := ⟨pb, 2, none⟩) (lt_of_cell c2) id).trans c2
              have k3 := ((Turn.refl (fun _ => False) W2).drew.cell (a := ⟨pb, 3, none⟩) (lt_of_cell c3) id).trans c3
              have k4 := ((Turn.refl (fun _ => False) W2).drew.cell (a := ⟨pb, 4, none⟩) (lt_of_cell c4) id).trans c4
              clear l3 l4
              by_cases l7 : x0 < 7
              · have e1 : decide (x0 < 7) = true := decide_eq_true l7
                have e2 : decide (7 ≤ x0) = false := decide_eq_false (by omega)
                have HO := hid (lnames_is HTd.out (by omega) (by omega) HL.out x0 x1 x2 x3 x4 (by omega) (by omega))
                go_upto_region 16 with fail
                refine wp_region_held_drew (S := fun w' => w'.cell? ⟨pb, 0, none⟩ = some (.int .i64 x0) ∧ w'.cell? ⟨pb, 1, none⟩ = some (.int .i64 x1) ∧ w'.cell? ⟨pb, 2, none⟩ = some (.int .i64 x2) ∧ w'.cell? ⟨pb, 3, none⟩ = some (.string x3) ∧ w'.cell? ⟨pb, 4, none⟩ = some (.string x4) ∧ w'.cell? ⟨rb, 0, none⟩ = some (.map (some nm))) (by kernel_rfl) (⟨k0, k1, k2, k3, k4, HTd.out.hdr⟩) (fun hHeld => ?_)
                refine wpAnyH_take (i := 0) (oi := ({ dst := some 56, op := Op.fieldAddr 60 (Operand.tmp 9) 0, type := 0, pos := "law.go:445", after := #[], guard := none } : Oper)) (v := ?v0a) rfl (by kernel_rfl) (by kernel_rfl) (by kernel_rfl) (fun _ _ _ h => h) (Or.inl ⟨by rfl, ?y0a⟩) (by assumption) ?r0a
                case y0a => ((intro w hSw; (try dsimp only at hSw); go_simp) <;> with_reducible rfl)
                try simp only [Act.put, List.setIfInBounds_toArray, List.set_cons_zero, List.set_cons_succ]
                refine wpAnyH_take (i := 1) (oi := ({ dst := some 57, op := Op.load 3 (Operand.tmp 56), type := 3, pos := "law.go:445", after := #[{ on := 0, ground := Ground.data }], guard := none } : Oper)) (v := ?v1a) rfl (by kernel_rfl) (by kernel_rfl) (by kernel_rfl) (fun _ _ _ h => h) (Or.inl ⟨by rfl, ?y1a⟩) (by assumption) ?r1a
                case y1a => ((intro w hSw; (try dsimp only at hSw); go_simp) <;> with_reducible rfl)
                try simp only [Act.put, List.setIfInBounds_toArray, List.set_cons_zero, List.set_cons_succ]
                refine wpAnyH_take (i := 2) (oi := ({ dst := some 58, op := Op.binOp BinOp.lss 3 (Operand.tmp 57) (Operand.const (Value.int IntKind.i64 7)) 3, type := 4, pos := "law.go:445", after := #[{ on := 1, ground := Ground.data }], guard := none } : Oper)) (v := ?v2a) rfl (by kernel_rfl) (by kernel_rfl) (by kernel_rfl) (fun _ _ _ h => h) (Or.inl ⟨by rfl, ?y2a⟩) (by assumption) ?r2a
                case y2a => ((intro w hSw; (try dsimp only at hSw); go_simp) <;> with_reducible rfl)
                try simp only [Act.put, List.setIfInBounds_toArray, List.set_cons_zero, List.set_cons_succ]
                refine wpAnyH_take (i := 3) (oi := ({ dst := some 59, op := Op.move (Operand.tmp 58), type := 4, pos := "law.go:445", after := #[{ on := 2, ground := Ground.data }], guard := none } : Oper)) (v := ?v3a) rfl (by kernel_rfl) (by kernel_rfl) (by kernel_rfl) (fun _ _ _ h => h) (Or.inl ⟨by rfl, ?y3a⟩) (by assumption) ?r3a
                case y3a => ((intro w hSw; (try dsimp only at hSw); go_simp) <;> with_reducible rfl)
                try simp only [Act.put, List.setIfInBounds_toArray, List.set_cons_zero, List.set_cons_succ]
                refine wpAnyH_take (i := 4) (oi := ({ dst := some 60, op := Op.move (Operand.tmp 5), type := 41, pos := "law.go:445", after := #[{ on := 3, ground := Ground.guard }], guard := some (3, true) } : Oper)) (v := ?v4a) rfl (by kernel_rfl) (by kernel_rfl) (by kernel_rfl) (fun _ _ _ h => h) (Or.inl ⟨by rfl, ?y4a⟩) (by assumption) ?r4a
                case y4a => ((intro w hSw; (try dsimp only at hSw); go_simp) <;> with_reducible rfl)
                try simp only [Act.put, List.setIfInBounds_toArray, List.set_cons_zero, List.set_cons_succ]
                refine wpAnyH_take (i := 5) (oi := ({ dst := some 61, op := Op.move (Operand.tmp 6), type := 54, pos := "law.go:445", after := #[{ on := 3, ground := Ground.guard }], guard := some (3, true) } : Oper)) (v := ?v5a) rfl (by kernel_rfl) (by kernel_rfl) (by kernel_rfl) (fun _ _ _ h => h) (Or.inl ⟨by rfl, ?y5a⟩) (by assumption) ?r5a
                case y5a => ((intro w hSw; (try dsimp only at hSw); go_simp) <;> with_reducible rfl)
                try simp only [Act.put, List.setIfInBounds_toArray, List.set_cons_zero, List.set_cons_succ]
                refine wpAnyH_take (i := 6) (oi := ({ dst := some 62, op := Op.load 60 (Operand.tmp 9), type := 60, pos := "law.go:445", after := #[{ on := 3, ground := Ground.guard }], guard := some (3, true) } : Oper)) (v := ?v6a) rfl (by kernel_rfl) (by kernel_rfl) (by kernel_rfl) (fun _ _ _ h => h) (Or.inl ⟨by rfl, ?y6a⟩) (by assumption) ?r6a
                case y6a => ((intro w hSw; (try dsimp only at hSw); go_simp) <;> with_reducible rfl)
                try simp only [Act.put, List.setIfInBounds_toArray, List.set_cons_zero, List.set_cons_succ]
                refine wpAnyH_ready (rs := [7]) (by kernel_rfl) (by simp) ?_
                refine AllReadyH.cons (o := ({ dst := some 63, op := Op.call { callee := Callee.value (Operand.func 33), args := #[Operand.tmp 60, Operand.tmp 61, Operand.tmp 62], argTypes := #[41, 54, 60] }, type := 4, pos := "law.go:445", after := #[{ on := 4, ground := Ground.data }, { on := 5, ground := Ground.data }, { on := 6, ground := Ground.data }, { on := 3, ground := Ground.chain }, { on := 3, ground := Ground.guard }], guard := some (3, true) } : Oper)) rfl (fun K hK => ?_) AllReadyH.nil
                go_simp
                (go_at_call 33; refine HO.out.mono ?_; rintro e w6 ⟨rfl, T', hT', hU⟩; have HT6 := hid hT'; have hl6 := hT'.len; have k06 := (hU.cell (a := ⟨pb, 0, none⟩) (lt_of_cell k0) HPb.out).trans k0; have k16 := (hU.cell (a := ⟨pb, 1, none⟩) (lt_of_cell k1) HPb.out).trans k1; have k26 := (hU.cell (a := ⟨pb, 2, none⟩) (lt_of_cell k2) HPb.out).trans k2; have k36 := (hU.cell (a := ⟨pb, 3, none⟩) (lt_of_cell k3) HPb.out).trans k3; have k46 := (hU.cell (a := ⟨pb, 4, none⟩) (lt_of_cell k4) HPb.out).trans k4; clear hT' hU)
                go_wp2_with fail
                refine hK.out _ _ ?_ (fun hHeld => ?_)
                · exact ⟨k06, k16, k26, k36, k46, HT6.out.hdr⟩
                clear hK K
                try simp only [Act.put, List.setIfInBounds_toArray, List.set_cons_zero, List.set_cons_succ]
                refine wpAnyH_take (i := 8) (oi := ({ dst := some 64, op := Op.unOp UnOp.not 4 (Operand.tmp 63), type := 4, pos := "law.go:445", after := #[{ on := 7, ground := Ground.data }, { on := 3, ground := Ground.guard }], guard := some (3, true) } : Oper)) (v := ?v8a) rfl (by kernel_rfl) (by kernel_rfl) (by kernel_rfl) (fun _ _ _ h => h) (Or.inl ⟨by rfl, ?y8a⟩) (by assumption) ?r8a
                case y8a => ((intro w hSw; (try dsimp only at hSw); go_simp) <;> with_reducible rfl)
                try simp only [Act.put, List.setIfInBounds_toArray, List.set_cons_zero, List.set_cons_succ]
                refine wpAnyH_take (i := 9) (oi := ({ dst := some 65, op := Op.pick (Operand.tmp 59) (Operand.tmp 64) (Operand.const (Value.bool false)), type := 4, pos := "law.go:445", after := #[{ on := 3, ground := Ground.data }, { on := 8, ground := Ground.data }], guard := none } : Oper)) (v := ?v9a) rfl (by kernel_rfl) (by kernel_rfl) (by kernel_rfl) (fun _ _ _ h => h) (Or.inl ⟨by rfl, ?y9a⟩) (by assumption) ?r9a
                case y9a => ((intro w hSw; (try dsimp only at hSw); go_simp) <;> with_reducible rfl)
                try simp only [Act.put, List.setIfInBounds_toArray, List.set_cons_zero, List.set_cons_succ]
                refine wpAnyH_take (i := 10) (oi := ({ dst := some 66, op := Op.move (Operand.tmp 65), type := 4, pos := "law.go:445", after := #[{ on := 9, ground := Ground.data }, { on := 7, ground := Ground.chain }], guard := none } : Oper)) (v := ?v10a) rfl (by kernel_rfl) (by kernel_rfl) (by kernel_rfl) (fun _ _ _ h => h) (Or.inl ⟨by rfl, ?y10a⟩) (by assumption) ?r10a
                case y10a => ((intro w hSw; (try dsimp only at hSw); go_simp) <;> with_reducible rfl)
                try simp only [Act.put, List.setIfInBounds_toArray, List.set_cons_zero, List.set_cons_succ]
                refine wpAnyH_take (i := 11) (oi := ({ dst := some 67, op := Op.fieldAddr 60 (Operand.tmp 9) 0, type := 0, pos := "law.go:445", after := #[{ on := 10, ground := Ground.guard }], guard := some (10, false) } : Oper)) (v := ?v11a) rfl (by kernel_rfl) (by kernel_rfl) (by kernel_rfl) (fun _ _ _ h => h) (Or.inl ⟨by rfl, ?y11a⟩) (by assumption) ?r11a
                case y11a => ((intro w hSw; (try dsimp only at hSw); go_simp) <;> with_reducible rfl)
                try simp only [Act.put, List.setIfInBounds_toArray, List.set_cons_zero, List.set_cons_succ]
                refine wpAnyH_take (i := 12) (oi := ({ dst := some 68, op := Op.load 3 (Operand.tmp 67), type := 3, pos := "law.go:445", after := #[{ on := 11, ground := Ground.data }, { on := 10, ground := Ground.guard }], guard := some (10, false) } : Oper)) (v := ?v12a) rfl (by kernel_rfl) (by kernel_rfl) (by kernel_rfl) (fun _ _ _ h => h) (Or.inl ⟨by rfl, ?y12a⟩) (by assumption) ?r12a
                case y12a => ((intro w hSw; (try dsimp only at hSw); go_simp) <;> with_reducible rfl)
                try simp only [Act.put, List.setIfInBounds_toArray, List.set_cons_zero, List.set_cons_succ]
                refine wpAnyH_take (i := 13) (oi := ({ dst := some 69, op := Op.binOp BinOp.geq 3 (Operand.tmp 68) (Operand.const (Value.int IntKind.i64 7)) 3, type := 4, pos := "law.go:445", after := #[{ on := 12, ground := Ground.data }, { on := 10, ground := Ground.guard }], guard := some (10, false) } : Oper)) (v := ?v13a) rfl (by kernel_rfl) (by kernel_rfl) (by kernel_rfl) (fun _ _ _ h => h) (Or.inl ⟨by rfl, ?y13a⟩) (by assumption) ?r13a
                case y13a => ((intro w hSw; (try dsimp only at hSw); go_simp) <;> with_reducible rfl)
                try simp only [Act.put, List.setIfInBounds_toArray, List.set_cons_zero, List.set_cons_succ]
                refine wpAnyH_take (i := 14) (oi := ({ dst := some 70, op := Op.move (Operand.tmp 69), type := 4, pos := "law.go:445", after := #[{ on := 13, ground := Ground.data }, { on := 10, ground := Ground.chain }, { on := 10, ground := Ground.guard }], guard := some (10, false) } : Oper)) (v := ?v14a) rfl (by kernel_rfl) (by kernel_rfl) (by kernel_rfl) (fun _ _ _ h => h) (Or.inl ⟨by rfl, ?y14a⟩) (by assumption) ?r14a
                case y14a => ((intro w hSw; (try dsimp only at hSw); go_simp) <;> with_reducible rfl)
                try simp only [Act.put, List.setIfInBounds_toArray, List.set_cons_zero, List.set_cons_succ]
                refine wpAnyH_take (i := 15) (oi := ({ dst := some 71, op := Op.move (Operand.tmp 5), type := 41, pos := "law.go:445", after := #[{ on := 14, ground := Ground.guard }], guard := some (14, true) } : Oper)) (v := undef) rfl (by kernel_rfl) (by kernel_rfl) (by kernel_rfl) (fun _ _ _ h => h) (Or.inr ⟨by rfl, rfl⟩) (by assumption) ?_
                try simp only [Act.put, List.setIfInBounds_toArray, List.set_cons_zero, List.set_cons_succ]
                refine wpAnyH_take (i := 16) (oi := ({ dst := some 72, op := Op.move (Operand.tmp 6), type := 54, pos := "law.go:445", after := #[{ on := 14, ground := Ground.guard }], guard := some (14, true) } : Oper)) (v := undef) rfl (by kernel_rfl) (by kernel_rfl) (by kernel_rfl) (fun _ _ _ h => h) (Or.inr ⟨by rfl, rfl⟩) (by assumption) ?_
                try simp only [Act.put, List.setIfInBounds_toArray, List.set_cons_zero, List.set_cons_succ]
                refine wpAnyH_take (i := 17) (oi := ({ dst := some 73, op := Op.load 60 (Operand.tmp 9), type := 60, pos := "law.go:445", after := #[{ on := 14, ground := Ground.guard }], guard := some (14, true) } : Oper)) (v := undef) rfl (by kernel_rfl) (by kernel_rfl) (by kernel_rfl) (fun _ _ _ h => h) (Or.inr ⟨by rfl, rfl⟩) (by assumption) ?_
                try simp only [Act.put, List.setIfInBounds_toArray, List.set_cons_zero, List.set_cons_succ]
                refine wpAnyH_take (i := 18) (oi := ({ dst := some 74, op := Op.call { callee := Callee.value (Operand.func 34), args := #[Operand.tmp 71, Operand.tmp 72, Operand.tmp 73], argTypes := #[41, 54, 60] }, type := 4, pos := "law.go:445", after := #[{ on := 15, ground := Ground.data }, { on := 16, ground := Ground.data }, { on := 17, ground := Ground.data }, { on := 14, ground := Ground.chain }, { on := 14, ground := Ground.guard }], guard := some (14, true) } : Oper)) (v := undef) rfl (by kernel_rfl) (by kernel_rfl) (by kernel_rfl) (fun _ _ _ h => h) (Or.inr ⟨by rfl, rfl⟩) (by assumption) ?_
                try simp only [Act.put, List.setIfInBounds_toArray, List.set_cons_zero, List.set_cons_succ]
                refine wpAnyH_take (i := 19) (oi := ({ dst := some 75, op := Op.unOp UnOp.not 4 (Operand.tmp 74), type := 4, pos := "law.go:445", after := #[{ on := 18, ground := Ground.data }, { on := 14, ground := Ground.guard }], guard := some (14, true) } : Oper)) (v := undef) rfl (by kernel_rfl) (by kernel_rfl) (by kernel_rfl) (fun _ _ _ h => h) (Or.inr ⟨by rfl, rfl⟩) (by assumption) ?_
                try simp only [Act.put, List.setIfInBounds_toArray, List.set_cons_zero, List.set_cons_succ]
                refine wpAnyH_take (i := 20) (oi := ({ dst := some 76, op := Op.pick (Operand.tmp 70) (Operand.tmp 75) (Operand.const (Value.bool false)), type := 4, pos := "law.go:445", after := #[{ on := 14, ground := Ground.data }, { on := 19, ground := Ground.data }, { on := 10, ground := Ground.guard }], guard := some (10, false) } : Oper)) (v := ?v20a) rfl (by kernel_rfl) (by kernel_rfl) (by kernel_rfl) (fun _ _ _ h => h) (Or.inl ⟨by rfl, ?y20a⟩) (by assumption) ?r20a
                case y20a => ((intro w hSw; (try dsimp only at hSw); go_simp) <;> with_reducible rfl)
                try simp only [Act.put, List.setIfInBounds_toArray, List.set_cons_zero, List.set_cons_succ]
                refine wpAnyH_take (i := 21) (oi := ({ dst := some 77, op := Op.pick (Operand.tmp 66) (Operand.const (Value.bool true)) (Operand.tmp 76), type := 4, pos := "law.go:445", after := #[{ on := 10, ground := Ground.data }, { on := 20, ground := Ground.data }], guard := none } : Oper)) (v := ?v21a) rfl (by kernel_rfl) (by kernel_rfl) (by kernel_rfl) (fun _ _ _ h => h) (Or.inl ⟨by rfl, ?y21a⟩) (by assumption) ?r21a
                case y21a => ((intro w hSw; (try dsimp only at hSw); go_simp) <;> with_reducible rfl)
                try simp only [Act.put, List.setIfInBounds_toArray, List.set_cons_zero, List.set_cons_succ]
                refine wpAnyH_take (i := 22) (oi := ({ dst := some 78, op := Op.move (Operand.tmp 77), type := 4, pos := "law.go:445", after := #[{ on := 21, ground := Ground.data }, { on := 18, ground := Ground.chain }], guard := none } : Oper)) (v := ?v22a) rfl (by kernel_rfl) (by kernel_rfl) (by kernel_rfl) (fun _ _ _ h => h) (Or.inl ⟨by rfl, ?y22a⟩) (by assumption) ?r22a
                case y22a => ((intro w hSw; (try dsimp only at hSw); go_simp) <;> with_reducible rfl)
                try simp only [Act.put, List.setIfInBounds_toArray, List.set_cons_zero, List.set_cons_succ]
                refine wpAnyH_take (i := 23) (oi := ({ dst := some 79, op := Op.move (Operand.tmp 5), type := 41, pos := "law.go:445", after := #[{ on := 22, ground := Ground.guard }], guard := some (22, false) } : Oper)) (v := ?v23a) rfl (by kernel_rfl) (by kernel_rfl) (by kernel_rfl) (fun _ _ _ h => h) (Or.inl ⟨by rfl, ?y23a⟩) (by assumption) ?r23a
                case y23a => ((intro w hSw; (try dsimp only at hSw); go_simp) <;> with_reducible rfl)
                try simp only [Act.put, List.setIfInBounds_toArray, List.set_cons_zero, List.set_cons_succ]
                refine wpAnyH_take (i := 25) (oi := ({ dst := some 81, op := Op.move (Operand.tmp 6), type := 54, pos := "law.go:445", after := #[{ on := 22, ground := Ground.guard }], guard := some (22, false) } : Oper)) (v := ?v25a) rfl (by kernel_rfl) (by kernel_rfl) (by kernel_rfl) (fun _ _ _ h => h) (Or.inl ⟨by rfl, ?y25a⟩) (by assumption) ?r25a
                case y25a => ((intro w hSw; (try dsimp only at hSw); go_simp) <;> with_reducible rfl)
                try simp only [Act.put, List.setIfInBounds_toArray, List.set_cons_zero, List.set_cons_succ]
                refine wpAnyH_take (i := 26) (oi := ({ dst := some 82, op := Op.nilCheck (Operand.tmp 81), type := 0, pos := "law.go:445", after := #[{ on := 25, ground := Ground.data }, { on := 22, ground := Ground.guard }], guard := some (22, false) } : Oper)) (v := ?v26a) rfl (by kernel_rfl) (by kernel_rfl) (by kernel_rfl) (fun _ _ _ h => h) (Or.inl ⟨by rfl, ?y26a⟩) (by assumption) ?r26a
                case y26a => ((intro w hSw; (try dsimp only at hSw); go_simp) <;> with_reducible rfl)
                try simp only [Act.put, List.setIfInBounds_toArray, List.set_cons_zero, List.set_cons_succ]
                refine wpAnyH_take (i := 27) (oi := ({ dst := some 83, op := Op.fieldAddr 63 (Operand.tmp 82) 0, type := 0, pos := "law.go:445", after := #[{ on := 26, ground := Ground.data }, { on := 22, ground := Ground.guard }], guard := some (22, false) } : Oper)) (v := ?v27a) rfl (by kernel_rfl) (by kernel_rfl) (by kernel_rfl) (fun _ _ _ h => h) (Or.inl ⟨by rfl, ?y27a⟩) (by assumption) ?r27a
                case y27a => ((intro w hSw; (try dsimp only at hSw); go_simp) <;> with_reducible rfl)
                try simp only [Act.put, List.setIfInBounds_toArray, List.set_cons_zero, List.set_cons_succ]
                refine wpAnyH_take (i := 28) (oi := ({ dst := some 84, op := Op.load 61 (Operand.tmp 83), type := 61, pos := "law.go:445", after := #[{ on := 27, ground := Ground.data }, { on := 22, ground := Ground.guard }], guard := some (22, false) } : Oper)) (v := ?v28a) rfl (by kernel_rfl) (by kernel_rfl) (by kernel_rfl) (fun _ _ _ h => h) (Or.inl ⟨by rfl, ?y28a⟩) (by assumption) ?r28a
                case y28a => ((intro w hSw; (try dsimp only at hSw); go_simp) <;> with_reducible rfl)
                try simp only [Act.put, List.setIfInBounds_toArray, List.set_cons_zero, List.set_cons_succ]
                refine wpAnyH_ready (rs := [24]) (by kernel_rfl) (by simp) ?_
                refine AllReadyH.cons (o := ({ dst := some 80, op := Op.call { callee := Callee.value (Operand.func 35), args := #[Operand.tmp 79], argTypes := #[41] }, type := 3, pos := "law.go:445", after := #[{ on := 23, ground := Ground.data }, { on := 22, ground := Ground.chain }, { on := 22, ground := Ground.guard }], guard := some (22, false) } : Oper)) rfl (fun K hK => ?_) AllReadyH.nil
                go_simp
                (go_at_call 35; refine HT6.out.nodes.mono ?_; rintro e w7 ⟨rfl, hw⟩; subst w7)
                go_wp2_with fail
                refine hK.out _ _ ?_ (fun hHeld => ?_)
                · exact ⟨k06, k16, k26, k36, k46, HT6.out.hdr⟩
                clear hK K
                try simp only [Act.put, List.setIfInBounds_toArray, List.set_cons_zero, List.set_cons_succ]
                refine wpAnyH_ready (rs := [29]) (by kernel_rfl) (by simp) ?_
                refine AllReadyH.cons (o := ({ dst := some 85, op := Op.call { callee := Callee.builtin Builtin.len, args := #[Operand.tmp 84], argTypes := #[61] }, type := 3, pos := "law.go:445", after := #[{ on := 28, ground := Ground.data }, { on := 24, ground := Ground.chain }, { on := 22, ground := Ground.guard }], guard := some (22, false) } : Oper)) rfl (fun K hK => ?_) AllReadyH.nil
                go_simp
                refine hK.out _ _ ?_ (fun hHeld => ?_)
                · exact ⟨k06, k16, k26, k36, k46, HT6.out.hdr⟩
                clear hK K
                try simp only [Act.put, List.setIfInBounds_toArray, List.set_cons_zero, List.set_cons_succ]
                refine wpAnyH_take (i := 30) (oi := ({ dst := some 86, op := Op.binOp BinOp.neq 3 (Operand.tmp 80) (Operand.tmp 85) 3, type := 4, pos := "law.go:445", after := #[{ on := 24, ground := Ground.data }, { on := 29, ground := Ground.data }, { on := 22, ground := Ground.guard }], guard := some (22, false) } : Oper)) (v := ?v30a) rfl (by kernel_rfl) (by kernel_rfl) (by kernel_rfl) (fun _ _ _ h => h) (Or.inl ⟨by rfl, ?y30a⟩) (by assumption) ?r30a
                case y30a => ((intro w hSw; (try dsimp only at hSw); go_simp) <;> with_reducible rfl)
                try simp only [Act.put, List.setIfInBounds_toArray, List.set_cons_zero, List.set_cons_succ]
                refine wpAnyH_take (i := 31) (oi := ({ dst := some 87, op := Op.pick (Operand.tmp 78) (Operand.const (Value.bool true)) (Operand.tmp 86), type := 4, pos := "law.go:445", after := #[{ on := 22, ground := Ground.data }, { on := 30, ground := Ground.data }], guard := none } : Oper)) (v := ?v31a) rfl (by kernel_rfl) (by kernel_rfl) (by kernel_rfl) (fun _ _ _ h => h) (Or.inl ⟨by rfl, ?y31a⟩) (by assumption) ?r31a
                case y31a => ((intro w hSw; (try dsimp only at hSw); go_simp) <;> with_reducible rfl)
                try simp only [Act.put, List.setIfInBounds_toArray, List.set_cons_zero, List.set_cons_succ]
                refine wpAnyH_done (by kernel_rfl) ?_ _
                go_wp2_with fail
                go_roundg (gk - 1)
                case measure => omega
                case rel => exact ⟨j + 1, T', by omega, by go_num, hid (HT6.out.mono (by omega))⟩
              · have e1 : decide (x0 < 7) = false := decide_eq_false l7
                have e2 : decide (7 ≤ x0) = true := decide_eq_true (by omega)
                have HO := hid (lfiles_is HTd.out (by omega) HL.out x0 x1 x2 x3 x4 (by omega))
                go_upto_region 16 with fail
                refine wp_region_held_drew (S := fun w' => w'.cell? ⟨pb, 0, none⟩ = some (.int .i64 x0) ∧ w'.cell? ⟨pb, 1, none⟩ = some (.int .i64 x1) ∧ w'.cell? ⟨pb, 2, none⟩ = some (.int .i64 x2) ∧ w'.cell? ⟨pb, 3, none⟩ = some (.string x3) ∧ w'.cell? ⟨pb, 4, none⟩ = some (.string x4) ∧ w'.cell? ⟨rb, 0, none⟩ = some (.map (some nm))) (by kernel_rfl) (⟨k0, k1, k2, k3, k4, HTd.out.hdr⟩) (fun hHeld => ?_)
                refine wpAnyH_take (i := 0) (oi := ({ dst := some 56, op := Op.fieldAddr 60 (Operand.tmp 9) 0, type := 0, pos := "law.go:445", after := #[], guard := none } : Oper)) (v := ?v0b) rfl (by kernel_rfl) (by kernel_rfl) (by kernel_rfl) (fun _ _ _ h => h) (Or.inl ⟨by rfl, ?y0b⟩) (by assumption) ?r0b
                case y0b => ((intro w hSw; (try dsimp only at hSw); go_simp) <;> with_reducible rfl)
                try simp only [Act.put, List.setIfInBounds_toArray, List.set_cons_zero, List.set_cons_succ]
                refine wpAnyH_take (i := 1) (oi := ({ dst := some 57, op := Op.load 3 (Operand.tmp 56), type := 3, pos := "law.go:445", after := #[{ on := 0, ground := Ground.data }], guard := none } : Oper)) (v := ?v1b) rfl (by kernel_rfl) (by kernel_rfl) (by kernel_rfl) (fun _ _ _ h => h) (Or.inl ⟨by rfl, ?y1b⟩) (by assumption) ?r1b
                case y1b => ((intro w hSw; (try dsimp only at hSw); go_simp) <;> with_reducible rfl)
                try simp only [Act.put, List.setIfInBounds_toArray, List.set_cons_zero, List.set_cons_succ]
                refine wpAnyH_take (i := 2) (oi := ({ dst := some 58, op := Op.binOp BinOp.lss 3 (Operand.tmp 57) (Operand.const (Value.int IntKind.i64 7)) 3, type := 4, pos := "law.go:445", after := #[{ on := 1, ground := Ground.data }], guard := none } : Oper)) (v := ?v2b) rfl (by kernel_rfl) (by kernel_rfl) (by kernel_rfl) (fun _ _ _ h => h) (Or.inl ⟨by rfl, ?y2b⟩) (by assumption) ?r2b
                case y2b => ((intro w hSw; (try dsimp only at hSw); go_simp) <;> with_reducible rfl)
                try simp only [Act.put, List.setIfInBounds_toArray, List.set_cons_zero, List.set_cons_succ]
                refine wpAnyH_take (i := 3) (oi := ({ dst := some 59, op := Op.move (Operand.tmp 58), type := 4, pos := "law.go:445", after := #[{ on := 2, ground := Ground.data }], guard := none } : Oper)) (v := ?v3b) rfl (by kernel_rfl) (by kernel_rfl) (by kernel_rfl) (fun _ _ _ h => h) (Or.inl ⟨by rfl, ?y3b⟩) (by assumption) ?r3b
                case y3b => ((intro w hSw; (try dsimp only at hSw); go_simp) <;> with_reducible rfl)
                try simp only [Act.put, List.setIfInBounds_toArray, List.set_cons_zero, List.set_cons_succ]
                refine wpAnyH_take (i := 4) (oi := ({ dst := some 60, op := Op.move (Operand.tmp 5), type := 41, pos := "law.go:445", after := #[{ on := 3, ground := Ground.guard }], guard := some (3, true) } : Oper)) (v := undef) rfl (by kernel_rfl) (by kernel_rfl) (by kernel_rfl) (fun _ _ _ h => h) (Or.inr ⟨by rfl, rfl⟩) (by assumption) ?_
                try simp only [Act.put, List.setIfInBounds_toArray, List.set_cons_zero, List.set_cons_succ]
                refine wpAnyH_take (i := 5) (oi := ({ dst := some 61, op := Op.move (Operand.tmp 6), type := 54, pos := "law.go:445", after := #[{ on := 3, ground := Ground.guard }], guard := some (3, true) } : Oper)) (v := undef) rfl (by kernel_rfl) (by kernel_rfl) (by kernel_rfl) (fun _ _ _ h => h) (Or.inr ⟨by rfl, rfl⟩) (by assumption) ?_
                try simp only [Act.put, List.setIfInBounds_toArray, List.set_cons_zero, List.set_cons_succ]
                refine wpAnyH_take (i := 6) (oi := ({ dst := some 62, op := Op.load 60 (Operand.tmp 9), type := 60, pos := "law.go:445", after := #[{ on := 3, ground := Ground.guard }], guard := some (3, true) } : Oper)) (v := undef) rfl (by kernel_rfl) (by kernel_rfl) (by kernel_rfl) (fun _ _ _ h => h) (Or.inr ⟨by rfl, rfl⟩) (by assumption) ?_
                try simp only [Act.put, List.setIfInBounds_toArray, List.set_cons_zero, List.set_cons_succ]
                refine wpAnyH_take (i := 7) (oi := ({ dst := some 63, op := Op.call { callee := Callee.value (Operand.func 33), args := #[Operand.tmp 60, Operand.tmp 61, Operand.tmp 62], argTypes := #[41, 54, 60] }, type := 4, pos := "law.go:445", after := #[{ on := 4, ground := Ground.data }, { on := 5, ground := Ground.data }, { on := 6, ground := Ground.data }, { on := 3, ground := Ground.chain }, { on := 3, ground := Ground.guard }], guard := some (3, true) } : Oper)) (v := undef) rfl (by kernel_rfl) (by kernel_rfl) (by kernel_rfl) (fun _ _ _ h => h) (Or.inr ⟨by rfl, rfl⟩) (by assumption) ?_
                try simp only [Act.put, List.setIfInBounds_toArray, List.set_cons_zero, List.set_cons_succ]
                refine wpAnyH_take (i := 8) (oi := ({ dst := some 64, op := Op.unOp UnOp.not 4 (Operand.tmp 63), type := 4, pos := "law.go:445", after := #[{ on := 7, ground := Ground.data }, { on := 3, ground := Ground.guard }], guard := some (3, true) } : Oper)) (v := undef) rfl (by kernel_rfl) (by kernel_rfl) (by kernel_rfl) (fun _ _ _ h => h) (Or.inr ⟨by rfl, rfl⟩) (by assumption) ?_
                try simp only [Act.put, List.setIfInBounds_toArray, List.set_cons_zero, List.set_cons_succ]
                refine wpAnyH_take (i := 9) (oi := ({ dst := some 65, op := Op.pick (Operand.tmp 59) (Operand.tmp 64) (Operand.const (Value.bool false)), type := 4, pos := "law.go:445", after := #[{ on := 3, ground := Ground.data }, { on := 8, ground := Ground.data }], guard := none } : Oper)) (v := ?v9b) rfl (by kernel_rfl) (by kernel_rfl) (by kernel_rfl) (fun _ _ _ h => h) (Or.inl ⟨by rfl, ?y9b⟩) (by assumption) ?r9b
                case y9b => ((intro w hSw; (try dsimp only at hSw); go_simp) <;> with_reducible rfl)
                try simp only [Act.put, List.setIfInBounds_toArray, List.set_cons_zero, List.set_cons_succ]
                refine wpAnyH_take (i := 10) (oi := ({ dst := some 66, op := Op.move (Operand.tmp 65), type := 4, pos := "law.go:445", after := #[{ on := 9, ground := Ground.data }, { on := 7, ground := Ground.chain }], guard := none } : Oper)) (v := ?v10b) rfl (by kernel_rfl) (by kernel_rfl) (by kernel_rfl) (fun _ _ _ h => h) (Or.inl ⟨by rfl, ?y10b⟩) (by assumption) ?r10b
                case y10b => ((intro w hSw; (try dsimp only at hSw); go_simp) <;> with_reducible rfl)
                try simp only [Act.put, List.setIfInBounds_toArray, List.set_cons_zero, List.set_cons_succ]
                refine wpAnyH_take (i := 11) (oi := ({ dst := some 67, op := Op.fieldAddr 60 (Operand.tmp 9) 0, type := 0, pos := "law.go:445", after := #[{ on := 10, ground := Ground.guard }], guard := some (10, false) } : Oper)) (v := ?v11b) rfl (by kernel_rfl) (by kernel_rfl) (by kernel_rfl) (fun _ _ _ h => h) (Or.inl ⟨by rfl, ?y11b⟩) (by assumption) ?r11b
                case y11b => ((intro w hSw; (try dsimp only at hSw); go_simp) <;> with_reducible rfl)
                try simp only [Act.put, List.setIfInBounds_toArray, List.set_cons_zero, List.set_cons_succ]
                refine wpAnyH_take (i := 12) (oi := ({ dst := some 68, op := Op.load 3 (Operand.tmp 67), type := 3, pos := "law.go:445", after := #[{ on := 11, ground := Ground.data }, { on := 10, ground := Ground.guard }], guard := some (10, false) } : Oper)) (v := ?v12b) rfl (by kernel_rfl) (by kernel_rfl) (by kernel_rfl) (fun _ _ _ h => h) (Or.inl ⟨by rfl, ?y12b⟩) (by assumption) ?r12b
                case y12b => ((intro w hSw; (try dsimp only at hSw); go_simp) <;> with_reducible rfl)
                try simp only [Act.put, List.setIfInBounds_toArray, List.set_cons_zero, List.set_cons_succ]
                refine wpAnyH_take (i := 13) (oi := ({ dst := some 69, op := Op.binOp BinOp.geq 3 (Operand.tmp 68) (Operand.const (Value.int IntKind.i64 7)) 3, type := 4, pos := "law.go:445", after := #[{ on := 12, ground := Ground.data }, { on := 10, ground := Ground.guard }], guard := some (10, false) } : Oper)) (v := ?v13b) rfl (by kernel_rfl) (by kernel_rfl) (by kernel_rfl) (fun _ _ _ h => h) (Or.inl ⟨by rfl, ?y13b⟩) (by assumption) ?r13b
                case y13b => ((intro w hSw; (try dsimp only at hSw); go_simp) <;> with_reducible rfl)
                try simp only [Act.put, List.setIfInBounds_toArray, List.set_cons_zero, List.set_cons_succ]
                refine wpAnyH_take (i := 14) (oi := ({ dst := some 70, op := Op.move (Operand.tmp 69), type := 4, pos := "law.go:445", after := #[{ on := 13, ground := Ground.data }, { on := 10, ground := Ground.chain }, { on := 10, ground := Ground.guard }], guard := some (10, false) } : Oper)) (v := ?v14b) rfl (by kernel_rfl) (by kernel_rfl) (by kernel_rfl) (fun _ _ _ h => h) (Or.inl ⟨by rfl, ?y14b⟩) (by assumption) ?r14b
                case y14b => ((intro w hSw; (try dsimp only at hSw); go_simp) <;> with_reducible rfl)
                try simp only [Act.put, List.setIfInBounds_toArray, List.set_cons_zero, List.set_cons_succ]
                refine wpAnyH_take (i := 15) (oi := ({ dst := some 71, op := Op.move (Operand.tmp 5), type := 41, pos := "law.go:445", after := #[{ on := 14, ground := Ground.guard }], guard := some (14, true) } : Oper)) (v := ?v15b) rfl (by kernel_rfl) (by kernel_rfl) (by kernel_rfl) (fun _ _ _ h => h) (Or.inl ⟨by rfl, ?y15b⟩) (by assumption) ?r15b
                case y15b => ((intro w hSw; (try dsimp only at hSw); go_simp) <;> with_reducible rfl)
                try simp only [Act.put, List.setIfInBounds_toArray, List.set_cons_zero, List.set_cons_succ]
                refine wpAnyH_take (i := 16) (oi := ({ dst := some 72, op := Op.move (Operand.tmp 6), type := 54, pos := "law.go:445", after := #[{ on := 14, ground := Ground.guard }], guard := some (14, true) } : Oper)) (v := ?v16b) rfl (by kernel_rfl) (by kernel_rfl) (by kernel_rfl) (fun _ _ _ h => h) (Or.inl ⟨by rfl, ?y16b⟩) (by assumption) ?r16b
                case y16b => ((intro w hSw; (try dsimp only at hSw); go_simp) <;> with_reducible rfl)
                try simp only [Act.put, List.setIfInBounds_toArray, List.set_cons_zero, List.set_cons_succ]
                refine wpAnyH_take (i := 17) (oi := ({ dst := some 73, op := Op.load 60 (Operand.tmp 9), type := 60, pos := "law.go:445", after := #[{ on := 14, ground := Ground.guard }], guard := some (14, true) } : Oper)) (v := ?v17b) rfl (by kernel_rfl) (by kernel_rfl) (by kernel_rfl) (fun _ _ _ h => h) (Or.inl ⟨by rfl, ?y17b⟩) (by assumption) ?r17b
                case y17b => ((intro w hSw; (try dsimp only at hSw); go_simp) <;> with_reducible rfl)
                try simp only [Act.put, List.setIfInBounds_toArray, List.set_cons_zero, List.set_cons_succ]
                refine wpAnyH_ready (rs := [18]) (by kernel_rfl) (by simp) ?_
                refine AllReadyH.cons (o := ({ dst := some 74, op := Op.call { callee := Callee.value (Operand.func 34), args := #[Operand.tmp 71, Operand.tmp 72, Operand.tmp 73], argTypes := #[41, 54, 60] }, type := 4, pos := "law.go:445", after := #[{ on := 15, ground := Ground.data }, { on := 16, ground := Ground.data }, { on := 17, ground := Ground.data }, { on := 14, ground := Ground.chain }, { on := 14, ground := Ground.guard }], guard := some (14, true) } : Oper)) rfl (fun K hK => ?_) AllReadyH.nil
                go_simp
                (go_at_call 34; refine HO.out.mono ?_; rintro e w6 ⟨rfl, T', hT', hU⟩; have HT6 := hid hT'; have hl6 := hT'.len; have k06 := (hU.cell (a := ⟨pb, 0, none⟩) (lt_of_cell k0) HPb.out).trans k0; have k16 := (hU.cell (a := ⟨pb, 1, none⟩) (lt_of_cell k1) HPb.out).trans k1; have k26 := (hU.cell (a := ⟨pb, 2, none⟩) (lt_of_cell k2) HPb.out).trans k2; have k36 := (hU.cell (a := ⟨pb, 3, none⟩) (lt_of_cell k3) HPb.out).trans k3; have k46 := (hU.cell (a := ⟨pb, 4, none⟩) (lt_of_cell k4) HPb.out).trans k4; clear hT' hU)
                go_wp2_with fail
                refine hK.out _ _ ?_ (fun hHeld => ?_)
                · exact ⟨k06, k16, k26, k36, k46, HT6.out.hdr⟩
                clear hK K
                try simp only [Act.put, List.setIfInBounds_toArray, List.set_cons_zero, List.set_cons_succ]
                refine wpAnyH_take (i := 19) (oi := ({ dst := some 75, op := Op.unOp UnOp.not 4 (Operand.tmp 74), type := 4, pos := "law.go:445", after := #[{ on := 18, ground := Ground.data }, { on := 14, ground := Ground.guard }], guard := some (14, true) } : Oper)) (v := ?v19b) rfl (by kernel_rfl) (by kernel_rfl) (by kernel_rfl) (fun _ _ _ h => h) (Or.inl ⟨by rfl, ?y19b⟩) (by assumption) ?r19b
                case y19b => ((intro w hSw; (try dsimp only at hSw); go_simp) <;> with_reducible rfl)
                try simp only [Act.put, List.setIfInBounds_toArray, List.set_cons_zero, List.set_cons_succ]
                refine wpAnyH_take (i := 20) (oi := ({ dst := some 76, op := Op.pick (Operand.tmp 70) (Operand.tmp 75) (Operand.const (Value.bool false)), type := 4, pos := "law.go:445", after := #[{ on := 14, ground := Ground.data }, { on := 19, ground := Ground.data }, { on := 10, ground := Ground.guard }], guard := some (10, false) } : Oper)) (v := ?v20b) rfl (by kernel_rfl) (by kernel_rfl) (by kernel_rfl) (fun _ _ _ h => h) (Or.inl ⟨by rfl, ?y20b⟩) (by assumption) ?r20b
                case y20b => ((intro w hSw; (try dsimp only at hSw); go_simp) <;> with_reducible rfl)
                try simp only [Act.put, List.setIfInBounds_toArray, List.set_cons_zero, List.set_cons_succ]
                refine wpAnyH_take (i := 21) (oi := ({ dst := some 77, op := Op.pick (Operand.tmp 66) (Operand.const (Value.bool true)) (Operand.tmp 76), type := 4, pos := "law.go:445", after := #[{ on := 10, ground := Ground.data }, { on := 20, ground := Ground.data }], guard := none } : Oper)) (v := ?v21b) rfl (by kernel_rfl) (by kernel_rfl) (by kernel_rfl) (fun _ _ _ h => h) (Or.inl ⟨by rfl, ?y21b⟩) (by assumption) ?r21b
                case y21b => ((intro w hSw; (try dsimp only at hSw); go_simp) <;> with_reducible rfl)
                try simp only [Act.put, List.setIfInBounds_toArray, List.set_cons_zero, List.set_cons_succ]
                refine wpAnyH_take (i := 22) (oi := ({ dst := some 78, op := Op.move (Operand.tmp 77), type := 4, pos := "law.go:445", after := #[{ on := 21, ground := Ground.data }, { on := 18, ground := Ground.chain }], guard := none } : Oper)) (v := ?v22b) rfl (by kernel_rfl) (by kernel_rfl) (by kernel_rfl) (fun _ _ _ h => h) (Or.inl ⟨by rfl, ?y22b⟩) (by assumption) ?r22b
                case y22b => ((intro w hSw; (try dsimp only at hSw); go_simp) <;> with_reducible rfl)
                try simp only [Act.put, List.setIfInBounds_toArray, List.set_cons_zero, List.set_cons_succ]
                refine wpAnyH_take (i := 23) (oi := ({ dst := some 79, op := Op.move (Operand.tmp 5), type := 41, pos := "law.go:445", after := #[{ on := 22, ground := Ground.guard }], guard := some (22, false) } : Oper)) (v := ?v23b) rfl (by kernel_rfl) (by kernel_rfl) (by kernel_rfl) (fun _ _ _ h => h) (Or.inl ⟨by rfl, ?y23b⟩) (by assumption) ?r23b
                case y23b => ((intro w hSw; (try dsimp only at hSw); go_simp) <;> with_reducible rfl)
                try simp only [Act.put, List.setIfInBounds_toArray, List.set_cons_zero, List.set_cons_succ]
                refine wpAnyH_take (i := 25) (oi := ({ dst := some 81, op := Op.move (Operand.tmp 6), type := 54, pos := "law.go:445", after := #[{ on := 22, ground := Ground.guard }], guard := some (22, false) } : Oper)) (v := ?v25b) rfl (by kernel_rfl) (by kernel_rfl) (by kernel_rfl) (fun _ _ _ h => h) (Or.inl ⟨by rfl, ?y25b⟩) (by assumption) ?r25b
                case y25b => ((intro w hSw; (try dsimp only at hSw); go_simp) <;> with_reducible rfl)
                try simp only [Act.put, List.setIfInBounds_toArray, List.set_cons_zero, List.set_cons_succ]
                refine wpAnyH_take (i := 26) (oi := ({ dst := some 82, op := Op.nilCheck (Operand.tmp 81), type := 0, pos := "law.go:445", after := #[{ on := 25, ground := Ground.data }, { on := 22, ground := Ground.guard }], guard := some (22, false) } : Oper)) (v := ?v26b) rfl (by kernel_rfl) (by kernel_rfl) (by kernel_rfl) (fun _ _ _ h => h) (Or.inl ⟨by rfl, ?y26b⟩) (by assumption) ?r26b
                case y26b => ((intro w hSw; (try dsimp only at hSw); go_simp) <;> with_reducible rfl)
                try simp only [Act.put, List.setIfInBounds_toArray, List.set_cons_zero, List.set_cons_succ]
                refine wpAnyH_take (i := 27) (oi := ({ dst := some 83, op := Op.fieldAddr 63 (Operand.tmp 82) 0, type := 0, pos := "law.go:445", after := #[{ on := 26, ground := Ground.data }, { on := 22, ground := Ground.guard }], guard := some (22, false) } : Oper)) (v := ?v27b) rfl (by kernel_rfl) (by kernel_rfl) (by kernel_rfl) (fun _ _ _ h => h) (Or.inl ⟨by rfl, ?y27b⟩) (by assumption) ?r27b
                case y27b => ((intro w hSw; (try dsimp only at hSw); go_simp) <;> with_reducible rfl)
                try simp only [Act.put, List.setIfInBounds_toArray, List.set_cons_zero, List.set_cons_succ]
                refine wpAnyH_take (i := 28) (oi := ({ dst := some 84, op := Op.load 61 (Operand.tmp 83), type := 61, pos := "law.go:445", after := #[{ on := 27, ground := Ground.data }, { on := 22, ground := Ground.guard }], guard := some (22, false) } : Oper)) (v := ?v28b) rfl (by kernel_rfl) (by kernel_rfl) (by kernel_rfl) (fun _ _ _ h => h) (Or.inl ⟨by rfl, ?y28b⟩) (by assumption) ?r28b
                case y28b => ((intro w hSw; (try dsimp only at hSw); go_simp) <;> with_reducible rfl)
                try simp only [Act.put, List.setIfInBounds_toArray, List.set_cons_zero, List.set_cons_succ]
                refine wpAnyH_ready (rs := [24]) (by kernel_rfl) (by simp) ?_
                refine AllReadyH.cons (o := ({ dst := some 80, op := Op.call { callee := Callee.value (Operand.func 35), args := #[Operand.tmp 79], argTypes := #[41] }, type := 3, pos := "law.go:445", after := #[{ on := 23, ground := Ground.data }, { on := 22, ground := Ground.chain }, { on := 22, ground := Ground.guard }], guard := some (22, false) } : Oper)) rfl (fun K hK => ?_) AllReadyH.nil
                go_simp
                (go_at_call 35; refine HT6.out.nodes.mono ?_; rintro e w7 ⟨rfl, hw⟩; subst w7)
                go_wp2_with fail
                refine hK.out _ _ ?_ (fun hHeld => ?_)
                · exact ⟨k06, k16, k26, k36, k46, HT6.out.hdr⟩
                clear hK K
                try simp only [Act.put, List.setIfInBounds_toArray, List.set_cons_zero, List.set_cons_succ]
                refine wpAnyH_ready (rs := [29]) (by kernel_rfl) (by simp) ?_
                refine AllReadyH.cons (o := ({ dst := some 85, op := Op.call { callee := Callee.builtin Builtin.len, args := #[Operand.tmp 84], argTypes := #[61] }, type := 3, pos := "law.go:445", after := #[{ on := 28, ground := Ground.data }, { on := 24, ground := Ground.chain }, { on := 22, ground := Ground.guard }], guard := some (22, false) } : Oper)) rfl (fun K hK => ?_) AllReadyH.nil
                go_simp
                refine hK.out _ _ ?_ (fun hHeld => ?_)
                · exact ⟨k06, k16, k26, k36, k46, HT6.out.hdr⟩
                clear hK K
                try simp only [Act.put, List.setIfInBounds_toArray, List.set_cons_zero, List.set_cons_succ]
                refine wpAnyH_take (i := 30) (oi := ({ dst := some 86, op := Op.binOp BinOp.neq 3 (Operand.tmp 80) (Operand.tmp 85) 3, type := 4, pos := "law.go:445", after := #[{ on := 24, ground := Ground.data }, { on := 29, ground := Ground.data }, { on := 22, ground := Ground.guard }], guard := some (22, false) } : Oper)) (v := ?v30b) rfl (by kernel_rfl) (by kernel_rfl) (by kernel_rfl) (fun _ _ _ h => h) (Or.inl ⟨by rfl, ?y30b⟩) (by assumption) ?r30b
                case y30b => ((intro w hSw; (try dsimp only at hSw); go_simp) <;> with_reducible rfl)
                try simp only [Act.put, List.setIfInBounds_toArray, List.set_cons_zero, List.set_cons_succ]
                refine wpAnyH_take (i := 31) (oi := ({ dst := some 87, op := Op.pick (Operand.tmp 78) (Operand.const (Value.bool true)) (Operand.tmp 86), type := 4, pos := "law.go:445", after := #[{ on := 22, ground := Ground.data }, { on := 30, ground := Ground.data }], guard := none } : Oper)) (v := ?v31b) rfl (by kernel_rfl) (by kernel_rfl) (by kernel_rfl) (fun _ _ _ h => h) (Or.inl ⟨by rfl, ?y31b⟩) (by assumption) ?r31b
                case y31b => ((intro w hSw; (try dsimp only at hSw); go_simp) <;> with_reducible rfl)
                try simp only [Act.put, List.setIfInBounds_toArray, List.set_cons_zero, List.set_cons_succ]
                refine wpAnyH_done (by kernel_rfl) ?_ _
                go_wp2_with fail
                go_roundg (gk - 1)
                case measure => omega
                case rel => exact ⟨j + 1, T', by omega, by go_num, hid (HT6.out.mono (by omega))⟩
        · have hlt' : ¬ (j : Int) < xs.length := by omega
          obtain ⟨F, G, hF, _⟩ := hT.out.open_
          have HNm := hid (lnames_is hF (by omega) (by omega) HL.out 6 0 0 ⟨#[47]⟩ ⟨#[]⟩ (by decide) (by decide))
          clear hF
          go_wp2_with fail
          refine HNm.out.mono ?_
          rintro e w6 ⟨rfl, T', hT', _⟩
          have HT' := hid hT'.turn
          clear hT'
          go_wp2_with fail
          go_ret
          exact ⟨rfl, HT'.out⟩
end Go.Proofs.YtiohpmcedfbcgacGreatDoor
