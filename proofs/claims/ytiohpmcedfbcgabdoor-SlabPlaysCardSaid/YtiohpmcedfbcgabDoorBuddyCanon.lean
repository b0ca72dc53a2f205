/- Which blocks are free is told by what is taken: the free blocks of a good pool are those that are whole, and do not lie in a greater one that is. No program in sight. No condition but each theorem's own premises. -/
import Derived.Test.YtiohpmcedfbcgabDoorBuddyPlain
namespace Go.Proofs.YtiohpmcedfbcgabDoor
set_option linter.unusedVariables false

theorem sz_mul (j d : Nat) : sz (j + d) = sz d * sz j := by unfold sz; rw [Int.pow_add, Int.mul_comm]
theorem align_mono {b : Int} {j k : Nat} (h : j ≤ k) (ha : b % sz k = 0) : b % sz j = 0 := by
  obtain ⟨d, rfl⟩ := Nat.exists_eq_add_of_le h
  obtain ⟨q, rfl⟩ := Int.dvd_of_emod_eq_zero ha
  rw [sz_mul]
  exact Int.emod_eq_zero_of_dvd ⟨sz d * q, by rw [Int.mul_comm (sz d) (sz j), Int.mul_assoc]⟩

/-- Aligned blocks that meet lie one in the other. -/
theorem nest {b c : Int} {j k : Nat} (hjk : j ≤ k) (hb : b % sz k = 0) (hc : c % sz j = 0) (ho : Ov k b j c) : b ≤ c ∧ c + sz j ≤ b + sz k := by
  have hj := sz_pos j
  obtain ⟨p, rfl⟩ := Int.dvd_of_emod_eq_zero (align_mono hjk hb)
  obtain ⟨q, rfl⟩ := Int.dvd_of_emod_eq_zero hc
  obtain ⟨d, rfl⟩ := Nat.exists_eq_add_of_le hjk
  unfold Ov at ho
  rw [sz_mul] at ho ⊢
  obtain ⟨h1, h2⟩ := ho
  have e1 : sz j * p + sz d * sz j = sz j * (p + sz d) := by rw [Int.mul_add, Int.mul_comm (sz d)]
  have e2 : sz j * q + sz j = sz j * (q + 1) := by rw [Int.mul_add, Int.mul_one]
  rw [e2] at h1
  rw [e1] at h2
  have h3 : p < q + 1 := Int.lt_of_mul_lt_mul_left h1 (Int.le_of_lt hj)
  have h4 : q < p + sz d := Int.lt_of_mul_lt_mul_left h2 (Int.le_of_lt hj)
  refine ⟨Int.mul_le_mul_of_nonneg_left (by omega) (Int.le_of_lt hj), ?_⟩
  rw [e1, e2]
  exact Int.mul_le_mul_of_nonneg_left (by omega) (Int.le_of_lt hj)

/-- The block of twice the size in which a block lies. -/
def par (k : Nat) (b : Int) : Int := b - b % sz (k + 1)
theorem par_align (k : Nat) (b : Int) : par k b % sz (k + 1) = 0 := by
  unfold par
  rw [Int.sub_emod, Int.emod_emod_of_dvd _ (Int.dvd_refl _)]; simp
theorem par_le (k : Nat) (b : Int) : par k b ≤ b ∧ b < par k b + sz (k + 1) := by
  have hp := sz_pos (k + 1)
  have h1 := Int.emod_nonneg b (show sz (k + 1) ≠ 0 by omega)
  have h2 := Int.emod_lt_of_pos b hp
  unfold par
  omega
theorem par_in {k : Nat} {b : Int} (h : b % sz k = 0) : b + sz k ≤ par k b + sz (k + 1) := by
  have h1 := par_le k b
  have hp := sz_pos k
  have hs := sz_succ k
  exact (nest (Nat.le_succ k) (par_align k b) h ⟨by omega, h1.2⟩).2

def Whole (n : Int) (tk : List (Int × Nat)) (k : Nat) (b : Int) : Prop := Ok n k b ∧ ∀ t ∈ tk, ¬ Ov k b t.2 t.1
theorem Whole.sub {n : Int} {tk : List (Int × Nat)} {k j : Nat} {b c : Int} (h : Whole n tk k b) (hj : j < 7) (hc : c % sz j = 0) (h1 : b ≤ c) (h2 : c + sz j ≤ b + sz k) : Whole n tk j c := by
  obtain ⟨⟨_, h0, _, hn⟩, ht⟩ := h
  refine ⟨⟨hj, by omega, hc, by omega⟩, fun t hm ho => ht t hm ?_⟩
  obtain ⟨o1, o2⟩ := ho
  exact ⟨by omega, by omega⟩
/-- Whole, and in no greater one that is. -/
def Canon (n : Int) (tk : List (Int × Nat)) (k : Nat) (b : Int) : Prop := Whole n tk k b ∧ (k < 6 → ¬ Whole n tk (k + 1) (par k b))

theorem Good.whole {n : Int} {fr : Fr} {tk : List (Int × Nat)} (h : Good n fr tk) {k : Nat} {b : Int} (hk : k < 7) (hb : b ∈ fr k) : Whole n tk k b := ⟨h.okF k b hk hb, h.ft k b hk hb⟩
theorem Good.covers {n : Int} {fr : Fr} {tk : List (Int × Nat)} (h : Good n fr tk) {k : Nat} {b : Int} (hw : Whole n tk k b) : ∃ j c, j < 7 ∧ c ∈ fr j ∧ c ≤ b ∧ b < c + sz j := by
  obtain ⟨⟨_, h0, _, hn⟩, ht⟩ := hw
  have hp := sz_pos k
  rcases h.cov b h0 (by omega) with r | ⟨t, hm, r1, r2⟩
  · exact r
  · exact absurd ⟨by omega, by omega⟩ (ht t hm)

theorem Good.top {n : Int} {fr : Fr} {tk : List (Int × Nat)} (h : Good n fr tk) : ∀ {k : Nat} {b : Int}, k < 6 → b ∈ fr k → ¬ Whole n tk (k + 1) (par k b) := by
  intro k
  induction k using Nat.strongRecOn with
  | _ k ih =>
    intro b hk hb hw
    have hok := h.okF k b (by omega) hb
    obtain ⟨_, hb0, hba, hbn⟩ := hok
    have hsk := sz_pos k
    have hs := sz_succ k
    have hpl := par_le k b
    have hpi := par_in hba
    have hpa := par_align k b
    -- the other half
    obtain ⟨o, hoa, ho1, ho2, hob, hpair⟩ : ∃ o, o % sz k = 0 ∧ par k b ≤ o ∧ o + sz k ≤ par k b + sz (k + 1) ∧ ¬ Ov k o k b ∧ (o ∈ fr k → False) := by
      rcases align_cases hba with e | e
      · have he : par k b = b := by unfold par; omega
        refine ⟨b + sz k, align_add hba, by omega, by omega, by simp only [Ov, not_and]; omega, fun hm => h.nb k b hk e hb hm⟩
      · have he : par k b = b - sz k := by
          have hov : Ov (k + 1) (par k b) (k + 1) (b - sz k) := ⟨by omega, by omega⟩
          have n1 := nest (Nat.le_refl _) hpa e hov
          have n2 := nest (Nat.le_refl _) e hpa hov.symm
          omega
        refine ⟨b - sz k, align_even e, by omega, by omega, by simp only [Ov, not_and]; omega, fun hm => ?_⟩
        have := h.nb k (b - sz k) hk e hm
        rw [show b - sz k + sz k = b by omega] at this
        exact this hb
    have how : Whole n tk k o := hw.sub (by omega) hoa ho1 ho2
    obtain ⟨j, c, hj, hc, hc1, hc2⟩ := h.covers how
    have hca := (h.okF j c hj hc).2.2.1
    have hsj := sz_pos j
    have hov : Ov k o j c := ⟨by omega, by omega⟩
    rcases Nat.lt_trichotomy j k with e | e | e
    · have hn := nest (Nat.le_of_lt e) hoa hca hov
      have hpj := par_le j c
      have hpja := par_align j c
      have hsj1 := sz_pos (j + 1)
      have hov2 : Ov k o (j + 1) (par j c) := ⟨by omega, by omega⟩
      have hn2 := nest (show j + 1 ≤ k from e) hoa hpja hov2
      exact ih j e (by omega) hc (how.sub (by omega) hpja hn2.1 hn2.2)
    · subst e
      have n1 := nest (Nat.le_refl _) hoa hca hov
      have : c = o := by omega
      subst this
      exact hpair hc
    · have hov2 : Ov j c (k + 1) (par k b) := ⟨by omega, by omega⟩
      have hn2 := nest (show k + 1 ≤ j from e) hca hpa hov2
      have := (h.ff j c k b hj (by omega) hc hb ⟨by omega, by omega⟩).1
      omega

theorem Good.canon {n : Int} {fr : Fr} {tk : List (Int × Nat)} (h : Good n fr tk) {k : Nat} (hk : k < 7) {b : Int} : b ∈ fr k ↔ Canon n tk k b := by
  constructor
  · exact fun hb => ⟨h.whole hk hb, fun h6 => h.top h6 hb⟩
  · rintro ⟨hw, ht⟩
    obtain ⟨j, c, hj, hc, hc1, hc2⟩ := h.covers hw
    have hwc := h.whole hj hc
    have hca := hwc.1.2.2.1
    have hba := hw.1.2.2.1
    have hsk := sz_pos k
    have hsj := sz_pos j
    have hov : Ov k b j c := ⟨by omega, by omega⟩
    rcases Nat.lt_trichotomy j k with e | e | e
    · exfalso
      have hn := nest (Nat.le_of_lt e) hba hca hov
      have hpj := par_le j c
      have hpja := par_align j c
      have hsj1 := sz_pos (j + 1)
      have hn2 := nest (show j + 1 ≤ k from e) hba hpja ⟨by omega, by omega⟩
      exact h.top (by omega) hc (hw.sub (by omega) hpja hn2.1 hn2.2)
    · subst e
      have n1 := nest (Nat.le_refl _) hba hca hov
      have : c = b := by omega
      rw [← this]; exact hc
    · exfalso
      have hpl := par_le k b
      have hpa := par_align k b
      have hn2 := nest (show k + 1 ≤ j from e) hca hpa ⟨by omega, by omega⟩
      exact ht (by omega) (hwc.sub (by omega) hpa hn2.1 hn2.2)

/-- What is taken tells the free lists up to their order. -/
theorem Good.same {n : Int} {fr fr' : Fr} {tk tk' : List (Int × Nat)} (h : Good n fr tk) (h' : Good n fr' tk') (ht : ∀ t, t ∈ tk ↔ t ∈ tk') {k : Nat} (hk : k < 7) : (fr k).Perm (fr' k) := by
  rw [List.perm_ext_iff_of_nodup (h.nd k hk) (h'.nd k hk)]
  intro b
  rw [h.canon hk, h'.canon hk]
  have hw : ∀ j c, Whole n tk j c ↔ Whole n tk' j c := fun j c => by unfold Whole; simp only [ht]
  unfold Canon
  rw [hw, hw]
end Go.Proofs.YtiohpmcedfbcgabDoor
