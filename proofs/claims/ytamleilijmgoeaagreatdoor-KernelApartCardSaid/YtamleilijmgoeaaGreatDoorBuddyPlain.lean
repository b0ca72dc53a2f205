/- Buddy blocks in plain Lean: what holds of free and taken blocks, and what splitting, merging, taking and putting does to it. No program in sight. No condition. Which blocks are free is told by what is taken: the free blocks of a good pool are those that are whole, and do not lie in a greater one that is. No program in sight. No condition but each theorem's own premises. -/

namespace Go.Proofs.YtamleilijmgoeaaGreatDoor
set_option linter.unusedVariables false
def sz (k:Nat):Int:=2 ^ k
theorem sz_pos (k:Nat):0 < sz k:=Int.pow_pos (by decide)
theorem sz_succ (k:Nat):sz (k+1)=2 * sz k:=by unfold sz; rw [Int.pow_succ]; omega
theorem sz_le {k:Nat} (h:k≤6):sz k≤64:=by
  match k,h with
  | 0,_ => decide
  | 1,_ => decide
  | 2,_ => decide
  | 3,_ => decide
  | 4,_ => decide
  | 5,_ => decide
  | 6,_ => decide
abbrev Fr:=Nat→List Int
def addTo (fr:Fr) (k:Nat) (b:Int):Fr:=fun j => if j=k then fr k ++ [b] else fr j
def outOf (fr:Fr) (k:Nat) (b:Int):Fr:=fun j => if j=k then (fr k).filter (fun x => !(x == b)) else fr j
theorem mem_add {fr:Fr} {k j:Nat} {b c:Int}:c∈addTo fr k b j ↔ c∈fr j∨(j=k∧c=b):=by
  unfold addTo
  by_cases h:j=k
  · subst h; simp
  · simp [h]
theorem mem_out {fr:Fr} {k j:Nat} {b c:Int}:c∈outOf fr k b j ↔ c∈fr j∧¬ (j=k∧c=b):=by
  unfold outOf
  by_cases h:j=k
  · subst h; simp
  · simp [h]
def Ok (n:Int) (k:Nat) (b:Int):Prop:=k < 7∧0≤b∧b % sz k=0∧b+sz k≤n
def Ov (k:Nat) (b:Int) (j:Nat) (c:Int):Prop:=b < c+sz j∧c < b+sz k
theorem Ov.symm {k j:Nat} {b c:Int} (h:Ov k b j c):Ov j c k b:=⟨h.2,h.1⟩
theorem Ov.self (k:Nat) (b:Int):Ov k b k b:=by have:=sz_pos k; exact ⟨by omega,by omega⟩
structure Good (n:Int) (fr:Fr) (tk:List (Int×Nat)):Prop where
  okF:∀ k b,k < 7→b∈fr k→Ok n k b
  okT:∀ t∈tk,Ok n t.2 t.1
  nd:∀ k,k < 7→(fr k).Nodup
  ff:∀ k b j c,k < 7→j < 7→b∈fr k→c∈fr j→Ov k b j c→k=j∧b=c
  tt:tk.Pairwise fun s t => ¬ Ov s.2 s.1 t.2 t.1
  ft:∀ k b,k < 7→b∈fr k→∀ t∈tk,¬ Ov k b t.2 t.1
  cov:∀ f,0≤f→f < n→(∃ k b,k < 7∧b∈fr k∧b≤f∧f < b+sz k)∨∃ t∈tk,t.1≤f∧f < t.1+sz t.2
  nb:∀ k b,k < 6→b % sz (k+1)=0→b∈fr k→b+sz k ∉ fr k
theorem Good.perm {n:Int} {fr:Fr} {tk tk':List (Int×Nat)} (h:Good n fr tk) (hp:tk.Perm tk'):Good n fr tk' :=
  ⟨h.okF,fun t ht => h.okT t (hp.mem_iff.2 ht),h.nd,h.ff,(hp.pairwise_iff (fun hn ho => hn ho.symm)).1 h.tt,fun k b hk hb t ht => h.ft k b hk hb t (hp.mem_iff.2 ht),
   fun f h0 h1 => (h.cov f h0 h1).imp id fun ⟨t,ht,r⟩ => ⟨t,hp.mem_iff.1 ht,r⟩,h.nb⟩
theorem align_even {b:Int} {k:Nat} (h:b % sz (k+1)=0):b % sz k=0:=by
  rw [sz_succ] at h
  have h1:=Int.dvd_of_emod_eq_zero h
  exact Int.emod_eq_zero_of_dvd (Int.dvd_trans ⟨2,by omega⟩ h1)
theorem align_add {b:Int} {k:Nat} (h:b % sz k=0):(b+sz k) % sz k=0:=by rw [Int.add_emod_right]; exact h
theorem half_ne {b:Int} {k:Nat} (h:b % sz (k+1)=0):(b+sz k) % sz (k+1)≠0:=by
  have hp:=sz_pos k
  rw [sz_succ] at h ⊢
  rw [Int.add_emod,h,Int.zero_add,Int.emod_emod_of_dvd _ (Int.dvd_refl _),Int.emod_eq_of_lt (by omega) (by omega)]
  omega
theorem Good.take {n:Int} {fr:Fr} {tk:List (Int×Nat)} (h:Good n fr tk) {k:Nat} {b:Int} (hk:k < 7) (hb:b∈fr k):Good n (outOf fr k b) ((b,k) :: tk) where
  okF j c hj hc:=h.okF j c hj (mem_out.1 hc).1
  okT t ht:=by
    rcases List.mem_cons.1 ht with rfl | ht
    · exact h.okF k b hk hb
    · exact h.okT t ht
  nd j hj:=by
    unfold outOf
    split
    · exact (h.nd k hk).filter _
    · exact h.nd j hj
  ff i c j d hi hj hc hd:=h.ff i c j d hi hj (mem_out.1 hc).1 (mem_out.1 hd).1
  tt:=List.pairwise_cons.2 ⟨fun t ht => h.ft k b hk hb t ht,h.tt⟩
  ft j c hj hc t ht:=by
    rcases List.mem_cons.1 ht with rfl | ht
    · intro ho
      exact (mem_out.1 hc).2 (h.ff j c k b hj hk (mem_out.1 hc).1 hb ho)
    · exact h.ft j c hj (mem_out.1 hc).1 t ht
  cov f h0 h1:=by
    rcases h.cov f h0 h1 with ⟨j,c,hj,hc,r⟩ | ⟨t,ht,r⟩
    · by_cases e:j=k∧c=b
      · obtain ⟨rfl,rfl⟩:=e
        exact .inr ⟨(c,j),List.mem_cons_self ..,r⟩
      · exact .inl ⟨j,c,hj,mem_out.2 ⟨hc,e⟩,r⟩
    · exact .inr ⟨t,List.mem_cons_of_mem _ ht,r⟩
  nb j c hj ha hc hm:=h.nb j c hj ha (mem_out.1 hc).1 (mem_out.1 hm).1
theorem Good.put {n:Int} {fr:Fr} {tk:List (Int×Nat)} {k:Nat} {b:Int} (h:Good n fr ((b,k) :: tk)) (hnb:k=6∨(b % sz (k+1)=0→b+sz k ∉ fr k)∧(b % sz (k+1)≠0→b - sz k ∉ fr k)):Good n (addTo fr k b) tk where
  okF j c hj hc:=by
    rcases mem_add.1 hc with hc | ⟨rfl,rfl⟩
    · exact h.okF j c hj hc
    · exact h.okT (c,j) (List.mem_cons_self ..)
  okT t ht:=h.okT t (List.mem_cons_of_mem _ ht)
  nd j hj:=by
    unfold addTo
    split
    · rename_i e
      subst e
      rw [List.nodup_append]
      refine ⟨h.nd j hj,by simp,?_⟩
      intro x hx y hy e
      simp only [List.mem_singleton] at hy
      subst hy
      subst e
      exact h.ft j x hj hx (x,j) (List.mem_cons_self ..) (Ov.self _ _)
    · exact h.nd j hj
  ff i c j d hi hj hc hd ho:=by
    rcases mem_add.1 hc with c1 | ⟨rfl,rfl⟩
    · rcases mem_add.1 hd with d1 | ⟨rfl,rfl⟩
      · exact h.ff i c j d hi hj c1 d1 ho
      · exact absurd ho (h.ft i c hi c1 (d,j) (List.mem_cons_self ..))
    · rcases mem_add.1 hd with d1 | ⟨rfl,rfl⟩
      · exact absurd ho.symm (h.ft j d hj d1 (c,i) (List.mem_cons_self ..))
      · exact ⟨rfl,rfl⟩
  tt:=(List.pairwise_cons.1 h.tt).2
  ft j c hj hc t ht:=by
    rcases mem_add.1 hc with hc | ⟨rfl,rfl⟩
    · exact h.ft j c hj hc t (List.mem_cons_of_mem _ ht)
    · exact (List.pairwise_cons.1 h.tt).1 t ht
  cov f h0 h1:=by
    rcases h.cov f h0 h1 with ⟨j,c,hj,hc,r⟩ | ⟨t,ht,r⟩
    · exact .inl ⟨j,c,hj,mem_add.2 (.inl hc),r⟩
    · rcases List.mem_cons.1 ht with rfl | ht
      · exact .inl ⟨k,b,(h.okT (b,k) (List.mem_cons_self ..)).1,mem_add.2 (.inr ⟨rfl,rfl⟩),r⟩
      · exact .inr ⟨t,ht,r⟩
  nb j c hj ha hc hm:=by
    rcases mem_add.1 hc with c1 | ⟨rfl,rfl⟩
    · rcases mem_add.1 hm with m1 | ⟨rfl,e⟩
      · exact h.nb j c hj ha c1 m1
      · rcases hnb with e6 | ⟨_,h2⟩
        · omega
        · refine h2 ?_ (by rw [← e]; rw [show c+sz j - sz j=c by omega]; exact c1)
          rw [← e]
          exact half_ne ha
    · rcases mem_add.1 hm with m1 | ⟨_,e⟩
      · rcases hnb with e6 | ⟨h1,_⟩
        · omega
        · exact h1 ha m1
      · have:=sz_pos j; omega
theorem Good.split {n:Int} {fr:Fr} {tk:List (Int×Nat)} {k:Nat} {b:Int} (h:Good n fr ((b,k+1) :: tk)):Good n (addTo fr k (b+sz k)) ((b,k) :: tk):=by
  obtain ⟨hk,hb0,hba,hbn⟩:=h.okT (b,k+1) (List.mem_cons_self ..)
  simp only at hk hb0 hba hbn
  have hp:=sz_pos k
  have h2:=sz_succ k
  have ha:=align_even hba
  have hno:∀ (j:Nat) (c:Int),j < 7→c∈fr j→¬ Ov j c k b∧¬ Ov j c k (b+sz k):=fun j c hj hc => by
    have:=h.ft j c hj hc (b,k+1) (List.mem_cons_self ..)
    simp only [Ov,not_and] at this ⊢
    constructor <;> omega
  have hnt:∀ t∈tk,¬ Ov k b t.2 t.1∧¬ Ov k (b+sz k) t.2 t.1:=fun t ht => by
    have:=(List.pairwise_cons.1 h.tt).1 t ht
    have hpt:=sz_pos t.2
    simp only [Ov,not_and] at this ⊢
    constructor <;> omega
  have h1:Good n fr ((b+sz k,k) :: (b,k) :: tk):={
    okF:=h.okF
    okT:=fun t ht => by
      rcases List.mem_cons.1 ht with rfl | ht
      · exact ⟨by simp only; omega,by simp only; omega,align_add ha,by simp only; omega⟩
      · rcases List.mem_cons.1 ht with rfl | ht
        · exact ⟨by simp only; omega,by simp only; omega,ha,by simp only; omega⟩
        · exact h.okT t (List.mem_cons_of_mem _ ht)
    nd:=h.nd
    ff:=h.ff
    tt:=by
      refine List.pairwise_cons.2 ⟨fun t ht => ?_,List.pairwise_cons.2 ⟨fun t ht => (hnt t ht).1,(List.pairwise_cons.1 h.tt).2⟩⟩
      rcases List.mem_cons.1 ht with rfl | ht
      · simp only [Ov,not_and]; omega
      · exact (hnt t ht).2
    ft:=fun j c hj hc t ht => by
      rcases List.mem_cons.1 ht with rfl | ht
      · exact (hno j c hj hc).2
      · rcases List.mem_cons.1 ht with rfl | ht
        · exact (hno j c hj hc).1
        · exact h.ft j c hj hc t (List.mem_cons_of_mem _ ht)
    cov:=fun f h0 h1 => by
      rcases h.cov f h0 h1 with r | ⟨t,ht,r1,r2⟩
      · exact .inl r
      · rcases List.mem_cons.1 ht with rfl | ht
        · simp only at r1 r2
          by_cases hf:f < b+sz k
          · exact .inr ⟨(b,k),by simp,r1,hf⟩
          · exact .inr ⟨(b+sz k,k),by simp,by simp only; omega,by simp only; omega⟩
        · exact .inr ⟨t,by simp [ht],r1,r2⟩
    nb:=h.nb }
  refine h1.put (.inr ⟨fun e => absurd e (half_ne hba),fun _ hm => ?_⟩)
  rw [show b+sz k - sz k=b by omega] at hm
  exact (hno k b (by omega) hm).1 (Ov.self _ _)
def bud (k:Nat) (b:Int):Int:=if b % sz (k+1)=0 then b+sz k else b - sz k
theorem align_cases {b:Int} {k:Nat} (h:b % sz k=0):b % sz (k+1)=0∨(b - sz k) % sz (k+1)=0:=by
  obtain ⟨q,rfl⟩:=Int.dvd_of_emod_eq_zero h
  have hp:=sz_pos k
  rw [sz_succ]
  rcases Int.emod_two_eq q with e | e
  · left
    obtain ⟨r,rfl⟩:=Int.dvd_of_emod_eq_zero e
    exact Int.emod_eq_zero_of_dvd ⟨r,by rw [Int.mul_comm 2 (sz k),Int.mul_assoc]⟩
  · right
    obtain ⟨r,hr⟩:∃ r,q=2 * r+1:=⟨q / 2,by omega⟩
    subst hr
    exact Int.emod_eq_zero_of_dvd ⟨r,by rw [Int.mul_add,Int.mul_one,Int.mul_comm 2 (sz k),Int.mul_assoc]; omega⟩
theorem bud_min {b:Int} {k:Nat} (h:b % sz k=0) (h0:0≤b):0≤min b (bud k b)∧min b (bud k b) % sz (k+1)=0∧(b=min b (bud k b)∧bud k b=min b (bud k b)+sz k∨b=min b (bud k b)+sz k∧bud k b=min b (bud k b)):=by
  have hp:=sz_pos k
  unfold bud
  split
  · rename_i e
    have e2:min b (b+sz k)=b:=by omega
    rw [e2]
    exact ⟨h0,e,.inl ⟨rfl,rfl⟩⟩
  · rename_i e
    have e2:min b (b - sz k)=b - sz k:=by omega
    rw [e2]
    have e3:=(align_cases h).resolve_left e
    refine ⟨?_,e3,.inr ⟨by omega,rfl⟩⟩
    obtain ⟨q,hq⟩:=Int.dvd_of_emod_eq_zero e3
    have hp2:=sz_pos (k+1)
    have hs:=sz_succ k
    have hq0:-1 < q:=by
      apply Int.lt_of_mul_lt_mul_left (a:=sz (k+1)) _ (Int.le_of_lt hp2)
      rw [← hq,Int.mul_neg,Int.mul_one]; omega
    have:0≤sz (k+1) * q:=Int.mul_nonneg (Int.le_of_lt hp2) (by omega)
    omega
theorem Good.merge {n:Int} {fr:Fr} {tk:List (Int×Nat)} {k:Nat} {b:Int} (h:Good n fr ((b,k) :: tk)) (hk:k < 6) (hm:bud k b∈fr k):Good n (outOf fr k (bud k b)) ((min b (bud k b),k+1) :: tk):=by
  obtain ⟨_,hb0,hba,hbn⟩:=h.okT (b,k) (List.mem_cons_self ..)
  simp only at hb0 hba hbn
  obtain ⟨m0,m1,m2⟩:=bud_min hba hb0
  have hob:=h.okF k _ (by omega) hm
  have hp:=sz_pos k
  have h2:=sz_succ k
  have h1:=h.take (by omega) hm
  generalize bud k b=o at *
  generalize min b o=m at *
  obtain ⟨_,ho0,hoa,hon⟩:=hob
  have hno:∀ (j:Nat) (c:Int) (s:List (Int×Nat)),¬ Ov j c k b→¬ Ov j c k o→0 < sz j→(c % sz j=0)→¬ Ov j c (k+1) m:=fun j c s n1 n2 hj _ => by
    simp only [Ov,not_and] at n1 n2 ⊢
    omega
  exact {
    okF:=h1.okF
    okT:=fun t ht => by
      rcases List.mem_cons.1 ht with rfl | ht
      · exact ⟨by simp only; omega,m0,m1,by simp only; omega⟩
      · exact h1.okT t (by simp [ht])
    nd:=h1.nd
    ff:=h1.ff
    tt:=by
      have e1:=List.pairwise_cons.1 h1.tt
      have e2:=List.pairwise_cons.1 e1.2
      refine List.pairwise_cons.2 ⟨fun t ht => ?_,e2.2⟩
      have g1:=e1.1 t (by simp [ht])
      have g2:=e2.1 t ht
      have ho:=h1.okT t (by simp [ht])
      intro hov
      exact hno t.2 t.1 tk (fun x => g2 x.symm) (fun x => g1 x.symm) (sz_pos _) ho.2.2.1 hov.symm
    ft:=fun j c hj hc t ht => by
      rcases List.mem_cons.1 ht with rfl | ht
      · exact hno j c tk (h1.ft j c hj hc (b,k) (by simp)) (h1.ft j c hj hc (o,k) (by simp)) (sz_pos _) (h1.okF j c hj hc).2.2.1
      · exact h1.ft j c hj hc t (by simp [ht])
    cov:=fun f h0 hf => by
      rcases h1.cov f h0 hf with r | ⟨t,ht,r1,r2⟩
      · exact .inl r
      · rcases List.mem_cons.1 ht with rfl | ht
        · exact .inr ⟨(m,k+1),by simp,by simp only at r1 r2 ⊢; omega,by simp only at r1 r2 ⊢; omega⟩
        · rcases List.mem_cons.1 ht with rfl | ht
          · exact .inr ⟨(m,k+1),by simp,by simp only at r1 r2 ⊢; omega,by simp only at r1 r2 ⊢; omega⟩
          · exact .inr ⟨t,by simp [ht],r1,r2⟩
    nb:=h1.nb }
theorem Good.putBud {n:Int} {fr:Fr} {tk:List (Int×Nat)} {k:Nat} {b:Int} (h:Good n fr ((b,k) :: tk)) (hnb:k=6∨bud k b ∉ fr k):Good n (addTo fr k b) tk:=by
  refine h.put (hnb.imp id fun hn => ⟨fun e => ?_,fun e => ?_⟩)
  · unfold bud at hn; rw [if_pos e] at hn; exact hn
  · unfold bud at hn; rw [if_neg e] at hn; exact hn
def par (k:Nat) (b:Int):Int:=b - b % sz (k+1)
end Go.Proofs.YtamleilijmgoeaaGreatDoor
