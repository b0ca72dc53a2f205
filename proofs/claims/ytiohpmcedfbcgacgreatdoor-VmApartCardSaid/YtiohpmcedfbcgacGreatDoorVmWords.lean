/- words: all words of a space's first pages, as one text. Conditions: each theorem's own premises. -/
import Derived.Test.YtiohpmcedfbcgacGreatDoorVmLoad
import Derived.Test.YtiohpmcedfbcgacGreatDoorBld
import Derived.Test.YtiohpmcedfbcgacGreatDoorNumText
import Derived.Test.YtiohpmcedfbcgacGreatDoorAs
namespace Go.Proofs.YtiohpmcedfbcgacGreatDoor
open Go.RowKit Go.Lib
set_option linter.unusedVariables false

def pieceT (v z : Int) : ByteArray := ⟨(itoa v).toArray⟩ ++ ⟨#[44]⟩ ++ ⟨(itoa z).toArray⟩ ++ ⟨#[59]⟩
def pieceL (v z : Int) : List UInt8 := itoa v ++ [44] ++ itoa z ++ [59]
theorem pieceT_eq (v z : Int) : strCells (pieceT v z) = byteCells (pieceL v z) := by
  unfold pieceT pieceL strCells byteCells
  simp
def rowT (V Z : Int → Int → Int) (a : Nat) : Nat → List UInt8
  | 0 => []
  | k + 1 => rowT V Z a k ++ pieceL (V a k) (Z a k)
def allT (V Z : Int → Int → Int) : Nat → List UInt8
  | 0 => []
  | a + 1 => allT V Z a ++ rowT V Z a 8
def wordsT (V Z : Int → Int → Int) (n : Int) : ByteArray := ⟨(allT V Z 12).toArray⟩ ++ ⟨(itoa n).toArray⟩
theorem rowT_congr {V V' Z Z' : Int → Int → Int} {a : Nat} : ∀ {k : Nat}, (∀ j : Nat, j < k → V a j = V' a j ∧ Z a j = Z' a j) → rowT V Z a k = rowT V' Z' a k
  | 0, _ => rfl
  | k + 1, h => by
    have h1 := h k (by omega)
    show rowT V Z a k ++ pieceL (V a k) (Z a k) = rowT V' Z' a k ++ pieceL (V' a k) (Z' a k)
    rw [rowT_congr (fun j hj => h j (by omega)), h1.1, h1.2]
theorem allT_congr {V V' Z Z' : Int → Int → Int} : ∀ {n : Nat}, (∀ a : Nat, a < n → ∀ j : Nat, j < 8 → V a j = V' a j ∧ Z a j = Z' a j) → allT V Z n = allT V' Z' n
  | 0, _ => rfl
  | n + 1, h => by
    show allT V Z n ++ rowT V Z n 8 = allT V' Z' n ++ rowT V' Z' n 8
    rw [allT_congr (fun a ha => h a (by omega)), rowT_congr (h n (by omega))]
theorem wordsT_congr {V V' Z Z' : Int → Int → Int} {n : Int} (h : ∀ a : Nat, a < 12 → ∀ j : Nat, j < 8 → V a j = V' a j ∧ Z a j = Z' a j) : wordsT V Z n = wordsT V' Z' n := by
  unfold wordsT
  rw [allT_congr h]
def I64 (n : Int) : Prop := -9223372036854775808 ≤ n ∧ n ≤ 9223372036854775807
theorem pieceL_len {v z : Int} (hv : I64 v) (hz : I64 z) : (pieceL v z).length ≤ 50 := by
  have h1 := itoa_length_le v hv.1 hv.2
  have h2 := itoa_length_le z hz.1 hz.2
  unfold pieceL
  simp only [List.length_append, List.length_singleton]
  omega
theorem rowT_len {V Z : Int → Int → Int} (hV : ∀ a k, I64 (V a k)) (hZ : ∀ a k, I64 (Z a k)) (a : Nat) : ∀ k, (rowT V Z a k).length ≤ k * 50
  | 0 => by simp [rowT]
  | k + 1 => by
    have h1 := rowT_len hV hZ a k
    have h2 := pieceL_len (hV a k) (hZ a k)
    show (rowT V Z a k ++ pieceL (V a k) (Z a k)).length ≤ _
    rw [List.length_append]
    omega
theorem allT_len {V Z : Int → Int → Int} (hV : ∀ a k, I64 (V a k)) (hZ : ∀ a k, I64 (Z a k)) : ∀ n, (allT V Z n).length ≤ n * 400
  | 0 => by simp [allT]
  | n + 1 => by
    have h1 := allT_len hV hZ n
    have h2 := rowT_len hV hZ n 8
    show (allT V Z n ++ rowT V Z n 8).length ≤ _
    rw [List.length_append]
    omega
theorem byteCells_app (a b : List UInt8) : byteCells (a ++ b) = byteCells a ++ byteCells b := by simp [byteCells]
theorem byteCells_len (a : List UInt8) : (byteCells a).length = a.length := by simp [byteCells]
theorem pieceT_size {v z : Int} (hv : I64 v) (hz : I64 z) : (pieceT v z).size ≤ 50 := by
  have h := strCells_length (pieceT v z)
  rw [pieceT_eq, byteCells_len] at h
  have := pieceL_len hv hz
  omega
theorem turn_of_below {w w' : World} {B : Nat} (h : Below B w w') (hB : w.heap.size ≤ B) : Turn (fun _ => False) w w' := ⟨h.os, h.tape, h.output, h.size, fun k hk _ => h.block k (by omega)⟩
theorem turn_above {w w' : World} {B : Nat} (h : Below B w w') : Turn (fun k => B ≤ k) w w' := ⟨h.os, h.tape, h.output, h.size, fun k hk hn => h.block k (by omega)⟩
theorem below_of_turn {w w' : World} {B : Nat} (t : Turn (fun _ => False) w w') (hB : B ≤ w.heap.size) : Below B w w' := ⟨t.os, t.tape, t.output, t.size, fun k hk => t.block k (by omega) id⟩
theorem BIs.turned {B b : Nat} {bs : List Value} {w w' : World} (h : BIs B b bs w) (t : Turn (fun _ => False) w w') : BIs B b bs w' := by
  have one : ∀ p, BAt B b p bs w → BAt B b p bs w' := fun p hp => by
    obtain ⟨h1, v, h2, h3, h4⟩ := hp
    refine ⟨h1, v, (t.block b (Array.getElem?_eq_some_iff.1 h2).1 id).trans h2, ?_, h4⟩
    refine ⟨h3.1, ?_⟩
    rcases h3.2 with h0 | ⟨g, cap, cur, rfl, hb, hg, r⟩
    · exact .inl h0
    · exact .inr ⟨g, cap, cur, rfl, hb, (t.block g (Array.getElem?_eq_some_iff.1 hg).1 id).trans hg, r⟩
  exact h.imp (one _) (one _)
section
variable {w w' : World} {s : SB} {n : Nat} {t : St} {sp pm : Nat} {P : Int → Option Pg}
theorem tell_vm (z : Int) (w : World) (hL : Laid w) : Calls Tryz.prog 27 #[VmErr z] w fun e w' => e = .returned (.int .i64 z) ∧ Turn (fun _ => False) w w' := by
  by_cases h : z = 0
  · subst h
    exact (tell_nil w).mono fun e w' ⟨he, hw⟩ => ⟨he, hw ▸ Turn.refl _ _⟩
  · rw [vmErr_of h]
    exact tell_errno z w hL
def WordsIs (P : Int → Option Pg) (m : Nat → Nat → Int) (w : World) (e : Ending) (w' : World) : Prop :=
  e = .returned (.string (wordsT (loadV P m) (fun a k => accE P a k 1) (lenP P))) ∧ Turn (fun _ => False) w w'
theorem accE_small (P : Int → Option Pg) (a wd pr : Int) : 0 ≤ accE P a wd pr ∧ accE P a wd pr < 15 := by
  rcases accE_or P a wd pr with ⟨he, hn⟩ | he | he | ⟨he, _⟩ <;> omega
theorem loadV_range {P : Int → Option Pg} {m : Nat → Nat → Int} (hm : ∀ f k, I64 (m f k)) (a wd : Int) : I64 (loadV P m a wd) := by
  unfold loadV wordV
  split
  · split
    · exact ⟨by omega, by omega⟩
    · exact hm _ _
  · exact ⟨by omega, by omega⟩
set_option maxHeartbeats 4000000 in
set_option maxRecDepth 100000 in
theorem words_is (hs : StoreIs w s n t) (h : SpIs w sp pm s.sb P) (hR : ∀ i q, P i = some q → 0 ≤ q.2 → 0 < t.R q.2) (hm : ∀ f k, I64 (t.m f k)) (hT : Tab w) (hL : Laid w) :
    Calls Tryz.prog 20 #[.pointer (some ⟨sp, 0, none⟩)] w (WordsIs P t.m w) := by
  have HS := hid hs
  have H := hid h
  have HRs := hid hR
  have HT := hid hT
  have HL := hid hL
  have hlp := lenP_le P
  have HLn : Hid (∀ w', Turn (fun _ => False) w w' → Calls Tryz.prog 21 #[.pointer (some ⟨sp, 0, none⟩)] w' fun e w'' => e = .returned (.int .i64 (lenP P)) ∧ w' = w'') := hid (fun w' tt => vmLen_is (h.turned tt id id))
  unfold WordsIs
  obtain ⟨V, hV⟩ : ∃ V : Int → Int → Int, loadV P t.m = V := ⟨_, rfl⟩
  obtain ⟨Z, hZ⟩ : ∃ Z : Int → Int → Int, (fun a k => accE P a k 1) = Z := ⟨_, rfl⟩
  have HV : Hid (∀ a k, I64 (V a k)) := hid (fun a k => by rw [← hV]; exact loadV_range hm a k)
  have HZ : Hid (∀ a k, 0 ≤ Z a k ∧ Z a k < 15) := hid (fun a k => by rw [← hZ]; exact accE_small P a k 1)
  have HZ2 : Hid (∀ a k, I64 (Z a k)) := hid (fun a k => by have := HZ.out a k; exact ⟨by omega, by omega⟩)
  have HLd : Hid (∀ w', Turn (fun _ => False) w w' → ∀ a k : Int, Calls Tryz.prog 82 #[.pointer (some ⟨sp, 0, none⟩), .int .i64 a, .int .i64 k] w' fun e w'' => e = .returned (.tuple #[.int .i64 (V a k), VmErr (Z a k)]) ∧ Turn (fun _ => False) w' w'') := hid (fun w' tt a k => by
    rw [← hV, ← hZ]
    exact vmLoad_is (hs.turned tt (fun _ _ => id)) (h.turned tt id id) hR a k)
  rw [hV, hZ]
  have HB0 := hid (bldNew w.heap.size w (Nat.le_refl _))
  obtain ⟨c, hc⟩ : ∃ c, w.heap.size = c := ⟨_, rfl⟩
  have HC := hid hc
  rw [hc] at HB0
  obtain ⟨LP, hLP⟩ : ∃ LP : Nat, lenP P = LP := ⟨_, rfl⟩
  rw [hLP] at HLn hlp
  rw [hLP]
  clear hs h hR hm hT hL hV hZ hLP HS H HRs
  go_enter Tryz.func20, Tryz.ntmps20
  go_wp2_with fail
  clear hc
  go_loopg [4] 12 (fun gl i wr => ∃ a : Nat, a + gl = 12 ∧ i = .int .i64 a ∧ Hid (BIs c c (byteCells (allT V Z a)) wr) ∧ Hid (Turn (fun _ => False) w wr))
  case atStart => exact ⟨0, by omega, rfl, HB0, hid ((Turn.refl _ _).alloc _)⟩
  case round =>
    obtain ⟨a, ha, rfl, hB, hTw⟩ := hrel
    by_cases ha12 : a < 12
    · have ha' : (a : Int) < 12 := by omega
      go_wp2_with fail
      go_loopg [5] 8 (fun gl i wx => ∃ k : Nat, k + gl = 8 ∧ i = .int .i64 k ∧ Hid (BIs c c (byteCells (allT V Z a ++ rowT V Z a k)) wx) ∧ Hid (Turn (fun _ => False) w wx))
      case atStart => exact ⟨0, by omega, rfl, hid (by show BIs c c (byteCells (allT V Z a ++ [])) _; rw [List.append_nil]; exact hB.out), hTw⟩
      case round =>
        clear hB hTw
        obtain ⟨k, hk, rfl, hB, hTw⟩ := hrel
        by_cases hk8 : k < 8
        · have hk8' : (k : Int) < 8 := by omega
          have HLk := hid (HLd.out _ hTw.out a k)
          have hz := HZ.out a k
          have HVr := hid (HV.out a k)
          have HZr := hid (HZ2.out a k)
          have HRow : Hid (rowT V Z a (k + 1) = rowT V Z a k ++ pieceL (V a k) (Z a k)) := hid rfl
          have HAl := hid (allT_len HV.out HZ2.out a)
          have HRl := hid (rowT_len HV.out HZ2.out a k)
          obtain ⟨v, hv⟩ : ∃ v, V a k = v := ⟨_, rfl⟩
          obtain ⟨z, hzz⟩ : ∃ z, Z a k = z := ⟨_, rfl⟩
          rw [hv, hzz] at HLk HRow
          rw [hv] at HVr
          rw [hzz] at HZr hz
          have HPs := hid (pieceT_size HVr.out HZr.out)
          have hl1 := itoa_length_le v HVr.out.1 HVr.out.2
          have hl2 := itoa_length_le z HZr.out.1 HZr.out.2
          obtain ⟨sv, hsv⟩ : ∃ sv : ByteArray, ⟨(itoa v).toArray⟩ = sv := ⟨_, rfl⟩
          obtain ⟨sz, hsz⟩ : ∃ sz : ByteArray, ⟨(itoa z).toArray⟩ = sz := ⟨_, rfl⟩
          have hp1 : sv.size ≤ 21 := by rw [← hsv]; exact (by simpa [ByteArray.size] using hl1)
          have hp2 : sz.size ≤ 21 := by rw [← hsz]; exact (by simpa [ByteArray.size] using hl2)
          have HSv := hid hsv
          have HSz := hid hsz
          clear hv hzz hl1 hl2 hsv hsz
          go_wp2_with fail
          refine HLk.out.mono ?_
          rintro e w1 ⟨rfl, t1⟩
          have HT1 := hid (hTw.out.trans t1)
          have HB1 := hid (hB.out.turned t1)
          have HF := hid (fmt_is v HVr.out.1 HVr.out.2 w1 (HT.out.turned HT1.out))
          rw [HSv.out] at HF
          clear t1 HLk hB hTw
          go_wp2_with fail
          refine HF.out.mono ?_
          rintro e w2 ⟨rfl, t2⟩
          have HT2 := hid (HT1.out.trans t2)
          have HB2 := hid (HB1.out.turned t2)
          clear t2 HF HB1 HT1
          have HTl := hid (tell_vm z w2 (HL.out.turned0 HT2.out))
          go_wp2_with fail
          refine HTl.out.mono ?_
          rintro e w3 ⟨rfl, t3⟩
          have HT3 := hid (HT2.out.trans t3)
          have HB3 := hid (HB2.out.turned t3)
          have HI := hid (itoa_is z HZr.out.1 HZr.out.2 w3 (HT.out.turned HT3.out))
          rw [HSz.out] at HI
          clear t3 HTl HB2 HT2
          go_wp2_with fail
          refine HI.out.mono ?_
          rintro e w4 ⟨rfl, t4⟩
          have HT4 := hid (HT3.out.trans t4)
          have HB4 := hid (HB3.out.turned t4)
          clear t4 HI HB3 HT3
          have HW := hid (bldWrite_is HB4.out (sv ++ ⟨#[44]⟩ ++ sz ++ ⟨#[59]⟩) (by
            have h1 := HAl.out
            have h2 := HRl.out
            have h3 : (sv ++ ⟨#[44]⟩ ++ sz ++ ⟨#[59]⟩ : ByteArray) = pieceT v z := by rw [← HSv.out, ← HSz.out]; rfl
            rw [h3, byteCells_len, List.length_append]
            have := HPs.out
            omega) (by have := HT4.out.size; have := HC.out; omega))
          go_wp2_with fail
          refine HW.out.mono ?_
          rintro e w5 ⟨rfl, h5, b5⟩
          have HT5 := hid (HT4.out.trans' (turn_above b5) (fun k hk h => by have := HC.out; omega))
          have HB5 : Hid (BIs c c (byteCells (allT V Z a ++ rowT V Z a (k + 1))) w5) := hid (by
            have h3 : (sv ++ ⟨#[44]⟩ ++ sz ++ ⟨#[59]⟩ : ByteArray) = pieceT v z := by rw [← HSv.out, ← HSz.out]; rfl
            rw [h3, pieceT_eq, ← byteCells_app] at h5
            rw [HRow.out, ← List.append_assoc]
            exact h5)
          clear h5 b5 HW HB4 HT4
          go_wp2_with fail
          go_roundg (gk - 1)
          case measure => omega
          case rel => exact ⟨k + 1, by omega, by go_num, HB5, HT5⟩
        · have hk8' : ¬ (k : Int) < 8 := by omega
          obtain rfl : k = 8 := by omega
          go_wp2_with fail
          go_roundg (12 - (a + 1))
          case measure => omega
          case rel => exact ⟨a + 1, by omega, by go_num, hB, hTw⟩
    · have ha' : ¬ (a : Int) < 12 := by omega
      obtain rfl : a = 12 := by omega
      have HSt := hid (bldString_is hB.out (by have := hTw.out.size; have := HC.out; omega))
      clear ha
      go_wp2_with fail
      refine HSt.out.mono ?_
      rintro e w1 ⟨rfl, b1⟩
      have HT1 := hid (hTw.out.trans' (turn_above b1) (fun k hk h => by have := HC.out; omega))
      have HLn1 := hid (HLn.out _ HT1.out)
      clear b1 HSt
      go_wp2_with fail
      refine HLn1.out.mono ?_
      rintro e w2 ⟨rfl, rfl⟩
      have HI := hid (itoa_is LP (by omega) (by omega) w1 (HT.out.turned HT1.out))
      have HAl := hid (allT_len HV.out HZ2.out 12)
      have hlp2 := itoa_length_le LP (by omega) (by omega)
      obtain ⟨st, hst⟩ : ∃ st : ByteArray, ⟨(allT V Z 12).toArray⟩ = st := ⟨_, rfl⟩
      obtain ⟨sn, hsn⟩ : ∃ sn : ByteArray, ⟨(itoa (LP : Int)).toArray⟩ = sn := ⟨_, rfl⟩
      have hq1 : st.size ≤ 4800 := by rw [← hst]; exact (by simpa [ByteArray.size] using HAl.out)
      have hq2 : sn.size ≤ 21 := by rw [← hsn]; exact (by simpa [ByteArray.size] using hlp2)
      rw [hsn] at HI
      have HE : Hid (wordsT V Z LP = st ++ sn) := hid (by rw [← hst, ← hsn]; rfl)
      rw [hst]
      clear hst hsn hlp2
      go_wp2_with fail
      refine HI.out.mono ?_
      rintro e w3 ⟨rfl, t3⟩
      have HT3 := hid (HT1.out.trans t3)
      clear t3
      go_wp2_with fail
      go_ret
      exact ⟨by rw [HE.out]; rfl, HT3.out⟩
end
end Go.Proofs.YtiohpmcedfbcgacGreatDoor
