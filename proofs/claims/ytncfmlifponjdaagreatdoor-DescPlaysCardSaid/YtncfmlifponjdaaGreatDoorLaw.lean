/- From a walk to the row of a law: if the call returns true and turns nothing that was there, the law's 'post' holds. No condition but what each theorem names. Arguments opened: a slice of structs of one-cell fields, by its cells. Conditions: each theorem's own premises. (open_slice_fields is the how-to's own lemma, copied as it asks.) The condition 'errors.errorType is laid' as a walk wants it, and a world that meets it. No further condition. The condition that two tables of unicode/utf8 and errors.errorType are laid, and a world that meets it. No further condition. -/
import Derived.Test.YtncfmlifponjdaaGreatDoorProg
import Derived.WalkKit
import Derived.ProofKit
import Derived.SizedLaws
import Derived.Deep.Slices
import Derived.Deep.Fields
import Derived.ChangeSame
import Derived.Deep.MidRow
import Derived.Test.YtncfmlifponjdaaGreatDoorRows
import Derived.Test.YtncfmlifponjdaaGreatDoorBase
import Derived.ChangeVars
import Derived.JoinedOf
import Derived.RowKit
import Derived.RowKitTokens
import Derived.LaidLaws
import Derived.LaidHandle
import Derived.Stop.Joined
import Derived.MakeChecks
import Derived.Stop.LaidErr
namespace Go.Proofs.YtncfmlifponjdaaGreatDoor
set_option linter.unusedVariables false
section
open Go.ChangeShapes Go.WideShapes Go.ChangeAt Go.RowKit
theorem laidOut:laidOutB Tryz.prog=true:=by kernel_rfl
theorem own:ownKnob Tryz.prog.godebug=none:=by kernel_rfl
theorem bool_is:Tryz.prog.underlying 4=some .bool:=Tryz.underlying4
theorem trodAll_below {H:Type} {enc:TypeId×Value→H} {P:Program} (hl:laidOutB P=true) {W W':World} (hb:Below W.heap.size W W') :
  ∀ (ts:List TypeId) (vs:List Value) (ds:List (DataW H)) (ps:List MemPlace),DataW.TrodAll enc P W 0 (fun _ => true) true ts vs ds ps→(∀ x∈ps,x.block < W.heap.size) →
   (ts.all fun t => P.readableRec t && decide (t < P.types.size))=true→DataW.TrodAll enc P W' 0 (fun b => decide (b < W.heap.size)) true ts vs ds ps
 | [],[],[],ps,h,_,_ => h
 | [],[],_ :: _,_,h,_,_ => h.elim
 | [],_ :: _,_,_,h,_,_ => h.elim
 | _ :: _,[],_,_,h,_,_ => h.elim
 | _ :: _,_ :: _,[],_,h,_,_ => h.elim
 | t :: ts,v :: vs,d :: ds,ps,h,hlt,hr => by
  obtain ⟨p,q,h1,h2,rfl⟩:=h
  simp only [List.all_cons,Bool.and_eq_true,decide_eq_true_eq] at hr
  exact ⟨p,q,Below.trod hl hr.1.1 hr.1.2 h1 hb (fun x hx => hlt x (List.mem_append_left _ hx)),trodAll_below hl hb ts vs ds q h2 (fun x hx => hlt x (List.mem_append_right _ hx)) hr.2,rfl⟩
theorem law_post {H:Type} {enc:TypeId×Value→H} {f:Func} {s:ChangeSpec} {W W':World} {args:Array Value} {ds gs:List (DataW H)} {before:List MemPlace}
  (hW:DataW.Whole enc Tryz.prog f.params.toList s.vars false W args.toList ds gs before) (hv:s.vars=[])
  (hs:s.fn H (ds ++ gs)={ results:=[.lit (.bool true)],args:=ds }) (hr:f.resultTypes=#[4])
  (hp:(f.params.toList.all fun t => Tryz.prog.readableRec t && decide (t < Tryz.prog.types.size))=true) (hb:Below W.heap.size W W') :
  s.post enc Tryz.prog f false true false false W args (.bool true) W':=by
 have hW0:=hW
 obtain ⟨p,q,hA,hV,rfl,hfz,hnd⟩:=hW
 rw [hv] at hV
 have hgs:gs=[]∧q=[]:=by
  cases gs with
  | nil => exact ⟨rfl,hV⟩
  | cons a b => exact hV.elim
 obtain ⟨rfl,rfl⟩:=hgs
 refine ⟨ds,[],p ++ [],[],p,[],hW0,?_,?_,?_,hb.frame _,fun h => by cases h⟩
 ·rw [hs,hr]
  exact trodAll_mk1 (shut_bool bool_is true)
 ·rw [hs]
  exact trodAll_below laidOut hb _ _ _ _ hA (fun x hx => hW0.lt x (by simpa using hx)) hp
 ·rw [hs,hv]
  rfl
end
section
open Go.ChangeShapes Go.WideShapes Go.ChangeAt Go.RowKit Go.Deep
section
variable {H:Type} {enc:TypeId×Value→H} {P:Program} {w:World} {base:Nat} {spare:Nat→Bool} {held:Bool}
theorem open_slice_fields {t e:TypeId} {fs:Array Field} {fuel:Nat} {cs:List Value} {x:DataW H×List MemPlace} (ht:P.underlying t=some (.slice e)) (he:P.underlying e=some (.struct fs))
  (hone:oneCellFields P fs=true) (hC:P.cellsOf e=fs.size) (h:DataW.trod enc P w base spare held fuel t cs=some x) :
  (cs=[.slice none 0 0]∧x=(.nil,[])) ∨
  ∃ (a:Addr) (len cap m:Nat) (D:Nat→DataW H) (Pl:Nat→List MemPlace),cs=[.slice (some a) len cap]∧base≤a.block∧len≤cap∧cap≤maxLen∧m=(if spare a.block then cap else len) ∧
   x=(.slice ((List.range len).map D) ((List.range (m - len)).map fun j => D (len+j)),MemPlace.row a (m * fs.size) ++ (List.range m).flatMap Pl) ∧
   ∀ i,i < m→∃ (ys:List (DataW H×List MemPlace)) (n:Nat),D i=.agg (ys.map (·.1))∧Pl i=ys.flatMap (·.2)∧ys.length=fs.size ∧
    ∀ (j:Nat) (f:Field),fs[j]?=some f→∃ (v:Value) (y:DataW H×List MemPlace),w.cell? (a.add (i * fs.size+j))=some v∧ys[j]?=some y∧DataW.trod enc P w base spare held n f.type [v]=some y:=by
 rcases open_slice ht h with h0 | ⟨a,len,cap,m,n,D,Pl,hcs,hb,hl,hm,hmm,hx,hi⟩
 ·exact .inl h0
 ·refine .inr ⟨a,len,cap,m,D,Pl,hcs,hb,hl,hm,hmm,by rw [hC] at hx; exact hx,fun i him => ?_⟩
  obtain ⟨cs',hc,ht'⟩:=hi i him
  rw [hC] at hc
  obtain ⟨ys,n',hn',hy,hlen,hyl,hf⟩:=DataW.trod_struct he ht'
  obtain ⟨_,hcl,hat⟩:=World.cells?_some hc
  simp only [Prod.mk.injEq] at hy
  refine ⟨ys,n',hy.1,hy.2,hyl,fun j f hj => ?_⟩
  obtain ⟨ho,hk⟩:=hone_of hone j f hj
  have hjl:j < fs.size:=(Array.getElem?_eq_some_iff.1 hj).1
  have hcell:=hat j hjl
  have hv:cs'[j]?=some (cs'[j]'(by omega)):=List.getElem?_eq_getElem (by omega)
  have h1:=hf j f hj
  rw [ho,hk] at h1
  have hone':(cs'.drop j).take 1=[cs'[j]'(by omega)]:=by
   rw [List.drop_eq_getElem_cons (by omega)]
   rfl
  rw [hone'] at h1
  have hys:ys[j]?=some (ys[j]'(by omega)):=List.getElem?_eq_getElem (by omega)
  refine ⟨_,_,?_,hys,h1.trans hys⟩
  rw [← Go.Deep.add_add,hcell,hv]
def StructsAt (enc:TypeId×Value→H) (P:Program) (W:World) (fs:Array Field) (b off n:Nat):Prop :=
 ∀ (i j:Nat) (f:Field),i < n→fs[j]?=some f→∃ (v:Value) (y:DataW H×List MemPlace) (m:Nat),W.cell? ⟨b,off+(i * fs.size+j),none⟩=some v∧DataW.trod enc P W 0 (fun _ => true) true m f.type [v]=some y
theorem open_structs_cap {W:World} {r:Reach} {b0:Nat} {t e:TypeId} {fs:Array Field} {v:Value} {d:DataW H} {p:List MemPlace} (ht:P.underlying t=some (.slice e)) (he:P.underlying e=some (.struct fs))
  (hone:oneCellFields P fs=true) (hC:P.cellsOf e=fs.size) (h0:0 < fs.size) (hv:Value.okWide P W r b0 t v) (h:DataW.Trod enc P W 0 (fun _ => true) true t v d p) :
  ∃ (a:Option Addr) (n cap:Nat),v=.slice a n cap∧n≤cap∧cap≤maxLen∧(n=0∨∃ b off,a=some ⟨b,off,none⟩∧b < W.heap.size∧StructsAt enc P W fs b off n):=by
 obtain ⟨a,n,cap,rfl⟩:=okWide_slice ht hv
 obtain ⟨fuel,hf⟩:=h
 rcases open_slice_fields ht he hone hC hf with ⟨hcs,_⟩ | ⟨a',len,cap',m,D,Pl,hcs,_,hlen,hcap,hm,_,hD⟩
 ·simp only [Value.cells,List.cons.injEq,Value.slice.injEq,and_true] at hcs
  obtain ⟨rfl,rfl,rfl⟩:=hcs
  exact ⟨none,0,0,rfl,Nat.le_refl _,Nat.zero_le _,.inl rfl⟩
 ·simp only [Value.cells,List.cons.injEq,Value.slice.injEq,and_true] at hcs
  obtain ⟨rfl,rfl,rfl⟩:=hcs
  refine ⟨some a',n,cap,rfl,hlen,hcap,?_⟩
  by_cases hn:n=0
  ·exact .inl hn
  ·right
   simp only [if_true] at hm
   obtain ⟨b,off,spot⟩:=a'
   have get:∀ (i j:Nat) (f:Field),i < n→fs[j]?=some f→∃ (v:Value) (y:DataW H×List MemPlace) (k:Nat),W.cell? ((⟨b,off,spot⟩:Addr).add (i * fs.size+j))=some v∧DataW.trod enc P W 0 (fun _ => true) true k f.type [v]=some y:=by
    intro i j f hi hj
    obtain ⟨ys,k,_,_,_,hfj⟩:=hD i (by omega)
    obtain ⟨v,y,hc,_,ht⟩:=hfj j f hj
    exact ⟨v,y,k,hc,ht⟩
   have hsp:spot=none:=by
    obtain ⟨v,y,k,hc,_⟩:=get 0 0 fs[0] (by omega) (by simp [h0])
    cases spot with
    | none => rfl
    | some s =>
     exfalso
     unfold Addr.add at hc
     unfold World.cell? at hc
     split at hc <;> simp_all
   subst hsp
   have hadd:∀ k,(⟨b,off,none⟩:Addr).add k=⟨b,off+k,none⟩:=fun k => Addr.add_mid b off k
   refine ⟨b,off,rfl,?_,?_⟩
   ·obtain ⟨v,y,k,hc,_⟩:=get 0 0 fs[0] (by omega) (by simp [h0])
    rw [hadd] at hc
    exact World.block_lt_of_cell? _ _ hc
   ·intro i j f hi hj
    obtain ⟨v,y,k,hc,ht⟩:=get i j f hi hj
    rw [hadd] at hc
    exact ⟨v,y,k,hc,ht⟩
theorem open_structs {W:World} {r:Reach} {b0:Nat} {t e:TypeId} {fs:Array Field} {v:Value} {d:DataW H} {p:List MemPlace} (ht:P.underlying t=some (.slice e)) (he:P.underlying e=some (.struct fs))
  (hone:oneCellFields P fs=true) (hC:P.cellsOf e=fs.size) (h0:0 < fs.size) (hv:Value.okWide P W r b0 t v) (h:DataW.Trod enc P W 0 (fun _ => true) true t v d p) :
  ∃ (a:Option Addr) (n cap:Nat),v=.slice a n cap∧n≤maxLen∧(n=0∨∃ b off,a=some ⟨b,off,none⟩∧b < W.heap.size∧StructsAt enc P W fs b off n):=by
 obtain ⟨a,n,cap,hv',h1,h2,h3⟩:=open_structs_cap ht he hone hC h0 hv h
 exact ⟨a,n,cap,hv',Nat.le_trans h1 h2,h3⟩
end
end
section
open Go.ChangeShapes Go.WideShapes Go.RowKit
def laidOne:List (String×DataW Unit):=[("errors.errorType",Rows.laid_errors_errorType)]
theorem et_named:Tryz.prog.globalNamed "errors.errorType"=some 0:=by kernel_rfl
theorem rt_named:(Tryz.prog.cutTypes.find? (·.1 == "internal/reflectlite.rtype")).map (·.2)=some 197:=by kernel_rfl
theorem one_row:((List.range 255).filter fun t => Tryz.prog.rowNamed t [101,114,114,111,114])=[31]:=by kernel_rfl
theorem types_size:Tryz.prog.types.size=255:=by kernel_rfl
theorem laid_of_met {W:World} (h:laidMetH Tryz.prog laidOne W):Laid W:=by
 have h':laidMet Tryz.prog [] W∧handlesMet Tryz.prog laidOne W:=h
 obtain ⟨name,u,ty,e1,e2,e3,e4,e5⟩:=h'.2 _ (List.mem_singleton.2 rfl)
 have en:name=[101,114,114,111,114]:=(Option.some.inj e1).symm
 subst en
 obtain rfl:=Option.some.inj (rt_named.symm.trans e2)
 have hm:ty∈(List.range 255).filter fun t => Tryz.prog.rowNamed t [101,114,114,111,114]:=List.mem_filter.2 ⟨List.mem_range.2 (by rw [← types_size]; exact e3),e4⟩
 rw [one_row] at hm
 obtain rfl:=List.mem_singleton.1 hm
 have hh:typeHandle Tryz.prog 31=.pointer (some ⟨4,31,none⟩):=by kernel_rfl
 rw [hh] at e5
 have:=World.var?_cell et_named e5 0
 unfold Laid
 simpa using this
end
section
open Go.ChangeShapes Go.WideShapes Go.RowKit
def laidUtf:List (String×DataW Unit):=[("unicode/utf8.acceptRanges",Rows.laid_unicode_utf8_acceptRanges),("errors.errorType",Rows.laid_errors_errorType),("unicode/utf8.first",Rows.laid_unicode_utf8_first)]
theorem laidUtf_laid {W:World} (h:laidMetH Tryz.prog laidUtf W):Laid W:=by
 have h':laidMet Tryz.prog [("unicode/utf8.acceptRanges",Rows.laid_unicode_utf8_acceptRanges),("unicode/utf8.first",Rows.laid_unicode_utf8_first)] W∧handlesMet Tryz.prog laidOne W:=h
 exact laid_of_met (show laidMetH Tryz.prog laidOne W from ⟨laidMet_nil _ _,h'.2⟩)
def flatCells (d:DataW Unit):Array Value:=match d with
 | .agg l => (l.flatMap fun x => match x with
   | .lit (.int k z) => [Value.int k z]
   | .agg m => m.map fun y => match y with
    | .lit (.int k z) => Value.int k z
    | _ => undef
   | _ => [undef]).toArray
 | _ => #[]
noncomputable def laidWorldU (os:Os):World :=
  let w0:=World.holding Tryz.prog os ⟨#[],#[],[]⟩
  { w0 with heap:=((w0.heap.modify 0 fun
      | .cells _ t frozen => .cells #[.iface 197 (.agg #[.pointer (some ⟨4,31,none⟩)])] t frozen
      | o => o).modify 3 fun
      | .cells _ t frozen => .cells (flatCells Rows.laid_unicode_utf8_acceptRanges) t frozen
      | o => o).modify 2 fun
      | .cells _ t frozen => .cells (flatCells Rows.laid_unicode_utf8_first) t frozen
      | o => o }
theorem laidWorldU_met (os:Os) (args:Array Value):laidMetH Tryz.prog laidUtf ((laidWorldU os).forCall (fun _ _ => 0) ⟨#[],args,[]⟩).memory :=
 laidMetH_of_parts (laidMet_of_run' 600 (by kernel_rfl) (by kernel_rfl)) (by kernel_rfl)
end
end Go.Proofs.YtncfmlifponjdaaGreatDoor
