/- TreeOne, the run from every start: for every input the law returns true, and its arguments read behind the call as before. Condition: the row's own, that its listed variables are laid; the card ties them to the program's text. -/
import Derived.Test.YtacoaahomdjfnaaDoorRows
import Derived.Test.YtacoaahomdjfnaaDoorTreeList
import Derived.Test.YtacoaahomdjfnaaDoorLaw
import Derived.Test.YtacoaahomdjfnaaDoorLaidTabs
import Derived.Test.YtacoaahomdjfnaaDoorTie
import Derived.Test.YtacoaahomdjfnaaDoorCards
import Derived.SevenTiedAt
import Derived.ChangeMaps5
namespace Go.Proofs.YtacoaahomdjfnaaDoor
set_option linter.unusedVariables false
set_option maxRecDepth 100000
section
open Go.ChangeShapes Go.WideShapes Go.ChangeAt Go.RowKit
theorem pick_lt {α:Type} [Inhabited α] {p:Nat→α→Prop} {n:Nat} (h:∀ i,i < n→∃ z,p i z):∃ g:Nat→α,∀ i,i < n→p i (g i):=by
 classical
 refine ⟨fun i => if hi:i < n then Classical.choose (h i hi) else default,fun i hi => ?_⟩
 show p i (if hi:i < n then Classical.choose (h i hi) else default)
 rw [dif_pos hi]
 exact Classical.choose_spec (h i hi)
theorem nm3_list {H:Type} {enc:TypeId×Value→H} {W:World} {fs:Array Field} {b off n:Nat} (h:StructsAt enc Tryd.prog W fs b off n) (hs:fs.size=3) (ht:∀ (j:Nat) (f:Field),fs[j]?=some f→if j < 1 then Tryd.prog.underlying f.type=some (.int .i64) else Tryd.prog.underlying f.type=some .string) :
  ∃ xs:List Nm3,xs.length=n∧Nm3At W b off xs:=by
 have geti:∀ i j,i < n→j < 1→∃ z:Int,W.cell? ⟨b,off+(i * fs.size+j),none⟩=some (.int .i64 z):=by
  intro i j hi hj
  have hf:fs[j]?=some (fs[j]'(by omega)):=by simp
  obtain ⟨v,y,m,hc,hd⟩:=h i j _ hi hf
  have h1:=ht j _ hf
  rw [if_pos hj] at h1
  obtain ⟨z,hz,_,hw⟩:=DataW.trod_int h1 hd
  simp only [List.cons.injEq,and_true] at hz
  subst hz
  exact ⟨z,hc⟩
 have gets:∀ i j,i < n→1≤j→j < 3→∃ s:ByteArray,W.cell? ⟨b,off+(i * fs.size+j),none⟩=some (.string s):=by
  intro i j hi hj hj5
  have hf:fs[j]?=some (fs[j]'(by omega)):=by simp
  obtain ⟨v,y,m,hc,hd⟩:=h i j _ hi hf
  have h1:=ht j _ hf
  rw [if_neg (by omega)] at h1
  obtain ⟨s,hz,_,hw⟩:=DataW.trod_string h1 hd
  simp only [List.cons.injEq,and_true] at hz
  subst hz
  exact ⟨s,hc⟩
 obtain ⟨g0,h0⟩:=Go.Proofs.YtacoaahomdjfnaaDoor.pick_lt (fun i hi => geti i 0 hi (by omega))
 obtain ⟨g1,h1⟩:=Go.Proofs.YtacoaahomdjfnaaDoor.pick_lt (fun i hi => gets i 1 hi (by omega) (by omega))
 obtain ⟨g2,h2⟩:=Go.Proofs.YtacoaahomdjfnaaDoor.pick_lt (fun i hi => gets i 2 hi (by omega) (by omega))
 refine ⟨(List.range n).map fun i => (g0 i,g1 i,g2 i),by simp,?_⟩
 intro j x hx
 have hj:j < n:=by
  have:=(List.getElem?_eq_some_iff.1 hx).1
  simpa using this
 simp only [List.getElem?_map,List.getElem?_range hj,Option.map_some,Option.some.injEq] at hx
 subst hx
 rw [hs] at h0 h1 h2
 exact ⟨h0 j hj,h1 j hj,h2 j hj⟩
namespace TreeOne
theorem lifted (os:Os) (started:os.Started) (H:Type) (enc:TypeId×Value→H) :
  ReturnsInHanded {} Tryd.checked os 3 .any (fun w args => (Rows.treeOneSpec.pre enc Tryd.prog Tryd.f3 [] false w args∧laidMetH Tryd.prog laidTabs w)∧sizedMet enc Tryd.prog Tryd.f3 (OpenSpec.ofChange Rows.treeOneSpec) false w args)
   (Rows.treeOneSpec.post enc Tryd.prog Tryd.f3 false true false false):=by
 refine returnsInHanded_of_change_and (C:=Tryd.checked) (X:=fun w _ => laidMetH Tryd.prog laidTabs w) (fun _ _ _ hh h => h.of_heap hh) own started (by kernel_rfl) Tryd.func3
  (ChangeSpec.witness_at (enc:=enc) (C:=Tryd.checked) (os:=os) (X:=fun w _ => laidMetH Tryd.prog laidTabs w) false (laidWorldTb os) #[.slice none 0 0,.string ByteArray.empty,.string ByteArray.empty] 8 rfl (by kernel_rfl) (by kernel_rfl) (by kernel_rfl) (by kernel_rfl) (by kernel_rfl) (laidWorldTb_met os _)) ?_
 intro W base args ds gs before hval0 hW _ _ hL _
 have hval:∀ (j:Nat) t v,Tryd.f3.params[j]?=some t→args[j]?=some v→Value.okWide Tryd.prog W .any base t v:=hval0
 have hW':=hW
 obtain ⟨p,q,hA0,hV,rfl,hfz,hnd⟩:=hW
 have hA:DataW.TrodAll enc Tryd.prog W 0 (fun _ => true) true Tryd.f3.params.toList args.toList ds p:=hA0
 rw [Tryd.params3] at hA hval
 obtain ⟨v0,vs0,d0,ds0,p0,q0,hargs,rfl,rfl,h0,r0⟩:=trodAll_cons hA
 obtain ⟨v1,vs1,d1,ds1,p1,q1,rfl,rfl,rfl,h1,r1⟩:=trodAll_cons r0
 obtain ⟨v2,vs2,d2,ds2,p2,q2,rfl,rfl,rfl,h2,r2⟩:=trodAll_cons r1
 obtain ⟨rfl,rfl,rfl⟩:=trodAll_nil r2
 obtain rfl:args=#[v0,v1,v2]:=by cases args; simp_all
 obtain ⟨rfl,rfl⟩:=trodVars_none hV
 have hm:maxLen=9223372036854775807:=rfl
 obtain ⟨a,n,cap,rfl,hn,hcase⟩:=open_structs Tryd.underlying22 Tryd.underlying27 (by kernel_rfl) (by kernel_rfl) (by decide) (hval 0 22 v0 rfl rfl) h0
 obtain ⟨s1,rfl,rfl,rfl,e1⟩:=Go.ChangeMaps.open_string Tryd.underlying9 (hval 1 9 v1 rfl rfl) h1
 obtain ⟨s2,rfl,rfl,rfl,e2⟩:=Go.ChangeMaps.open_string Tryd.underlying9 (hval 2 9 v2 rfl rfl) h2
 have fin:∀ e W',(e=Ending.returned (.bool true)∧Turn (fun _ => False) W W')→∃ v,e=.returned v∧Rows.treeOneSpec.post enc Tryd.prog Tryd.f3 false true false false W #[.slice a n cap,.string s1,.string s2] v W':=by
  intro e W' ⟨he,hg⟩
  subst he
  exact ⟨_,rfl,law_post hW' rfl rfl rfl (by kernel_rfl) ((hg.mono (fun k hk h => h.elim)).below (Nat.le_refl _))⟩
 by_cases hbig:30 < n∨60 < s1.size∨60 < s2.size
 ·exact (treeOne_many a n cap s1 s2 W hbig).mono fin
 ·obtain ⟨xs,rfl,hxs⟩:∃ xs:List Nm3,xs.length=n∧(xs≠[]→∃ b off,a=some ⟨b,off,none⟩∧Nm3At W b off xs∧b < W.heap.size):=by
   rcases hcase with rfl | ⟨b,off,rfl,hb,hst⟩
   ·exact ⟨[],rfl,fun h => absurd rfl h⟩
   ·obtain ⟨xs,rfl,hc⟩:=nm3_list hst rfl (fun j f hf => by
     rcases j with _ | _ | _ | j
     ·cases hf; exact Tryd.underlying3
     ·cases hf; exact Tryd.underlying9
     ·cases hf; exact Tryd.underlying9
     ·simp at hf)
    exact ⟨xs,rfl,fun _ => ⟨b,off,rfl,hc,hb⟩⟩
  exact (treeOne_few a xs cap s1 s2 W (laidTabs_met hL) (by omega) (by omega) (by omega) hxs).mono fin
end TreeOne
end
end Go.Proofs.YtacoaahomdjfnaaDoor
