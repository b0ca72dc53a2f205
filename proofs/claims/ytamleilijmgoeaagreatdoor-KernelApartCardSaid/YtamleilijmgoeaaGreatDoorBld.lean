/- A strings.Builder that the call itself has made: WriteString and String. Conditions: each theorem's own premises. -/
import Derived.Test.YtamleilijmgoeaaGreatDoorBase
import Derived.Test.YtamleilijmgoeaaGreatDoorProg
import Derived.Test.YtamleilijmgoeaaGreatDoorBsI
import Derived.Shelf.Strings.Builder1
namespace Go.Proofs.YtamleilijmgoeaaGreatDoor
set_option linter.unusedVariables false
set_option maxHeartbeats 1000000
set_option maxRecDepth 100000
section
open Go.RowKit Go.Lib
abbrev BAt (B b:Nat) (p:Value) (bs:List Value) (w:World):Prop:=BuilderAt 323 5 B b p bs w
abbrev BIs (B b:Nat) (bs:List Value) (w:World):Prop:=IsBuilder 323 5 B b bs w
theorem bldSize:(Tryz.prog.info? 323).map (·.size)=some 2:=by kernel_rfl
theorem bldLies:liesAt Tryz.prog Tryz.prog.depth 323 (2 / Tryz.prog.cellsOf 323) 0 323 1=true:=by kernel_rfl
theorem byteInfo:(Tryz.prog.info? 5).map (fun i => (i.zero,i.size,i.bytes))=some (some (.int .u8 0),1,1):=by kernel_rfl
theorem infoB:∃ i,Tryz.prog.info? 5=some i∧i.zero=some (.int .u8 0)∧i.size=1∧i.bytes=1:=by
 have h:=byteInfo
 cases hi:Tryz.prog.info? 5 with
 | none => rw [hi] at h; cases h
 | some i =>
  rw [hi] at h
  simp only [Option.map_some,Option.some.injEq,Prod.mk.injEq] at h
  exact ⟨i,rfl,h.1,h.2.1,h.2.2⟩
theorem bldCheck_used (b:Nat) (w:World) (h0:w.cell? ⟨b,0,none⟩=some (.pointer (some ⟨b,0,none⟩))) :
  Calls Tryz.prog 259 #[.pointer (some ⟨b,0,none⟩)] w fun e w' => e=.returned (.tuple #[])∧w=w':=by
 obtain ⟨j,hj,_⟩:=Option.map_eq_some_iff.1 bldSize
 go_enter Tryz.func259,Tryz.ntmps259
 go_wp2_with fail
 rw [run_neq_ptr_same w _ Tryz.underlying320 hj]
 simp only [Result.andThen]
 rw [Oper.upon_value]
 go_wp2_with fail
 go_end0
 exact ⟨rfl,rfl⟩
theorem bldCheck_fresh (b:Nat) (w:World) (h0:w.cell? ⟨b,0,none⟩=some (.pointer none)) (hsh:w.shape? b=some (323,2)) (hfz:w.frozen? ⟨b,0,none⟩=false) :
  Calls Tryz.prog 259 #[.pointer (some ⟨b,0,none⟩)] w fun e w' => e=.returned (.tuple #[])∧w'=w.setCell ⟨b,0,none⟩ (.pointer (some ⟨b,0,none⟩)):=by
 obtain ⟨j,hj,hjs⟩:=Option.map_eq_some_iff.1 bldSize
 go_enter Tryz.func259,Tryz.ntmps259
 go_wp2_with fail
 rw [run_to_unsafe w ⟨b,0,none⟩ Tryz.underlying320 Tryz.underlying250 hj (by rw [hjs]; decide) hsh (Nat.zero_lt_succ 1)]
 simp only [Result.andThen]
 rw [Oper.upon_value]
 go_wp2_with fail
 rw [@run_callFunc_extern Tryz.prog 285 _ Extern.AbiNoEscape.same Tryz.func285 (by kernel_rfl) (by kernel_rfl) (by kernel_rfl) (by kernel_rfl)]
 rw [run_noEscape]
 simp only [Result.andThen]
 rw [Oper.upon_value]
 go_wp2_with fail
 rw [run_from_unsafe w ⟨b,0,none⟩ Tryz.underlying250 Tryz.underlying320 hj hsh bldLies]
 simp only [Result.andThen]
 rw [Oper.upon_value]
 go_wp2_with fail
 go_end0
 exact ⟨rfl,rfl⟩
theorem bldCheck_is {B b:Nat} {bs:List Value} {w:World} (h:BIs B b bs w) :
  Calls Tryz.prog 259 #[.pointer (some ⟨b,0,none⟩)] w fun e w' => e=.returned (.tuple #[])∧BAt B b (.pointer (some ⟨b,0,none⟩)) bs w'∧Below B w w':=by
 rcases h with h | h
 ·refine (bldCheck_fresh b w h.cell0 h.shape h.frozen0).mono ?_
  rintro e w' ⟨rfl,rfl⟩
  exact ⟨rfl,h.used _,(Below.refl B w).setCell (p:=⟨b,0,none⟩) h.1 _⟩
 ·refine (bldCheck_used b w h.cell0).mono ?_
  rintro e w' ⟨rfl,rfl⟩
  exact ⟨rfl,h,Below.refl B _⟩
def Wrote (B b:Nat) (bs:List Value) (s:ByteArray) (w:World) (e:Ending) (w':World):Prop :=
 e=.returned (.tuple #[.int .i64 s.size,.nilIface])∧BIs B b (bs ++ strCells s) w'∧Below B w w'
theorem bldWrite_is {B b:Nat} {bs:List Value} {w:World} (h:BIs B b bs w) (s:ByteArray) (hl:bs.length+s.size≤1000000000) (hB:B≤w.heap.size) :
  Calls Tryz.prog 212 #[.pointer (some ⟨b,0,none⟩),.string s] w (Wrote B b bs s w):=by
 obtain ⟨i0,hi,hz0,hz1,hz2⟩:=infoB
 go_enter Tryz.func212,Tryz.ntmps212
 go_wp2_with fail
 refine (bldCheck_is h).mono ?_
 rintro e w1 ⟨rfl,h1,hb1⟩
 obtain ⟨hBb,v,hbk,hown,hne⟩:=h1
 have c0:w1.cell? ⟨b,0,none⟩=some (.pointer (some ⟨b,0,none⟩)):=by rw [cell_of_heap hbk]; rfl
 have c1:w1.cell? ⟨b,1,none⟩=some v:=by rw [cell_of_heap hbk]; rfl
 go_wp2_with (at_builtin; refine wpList_append_own_string _ rfl _ _ 321 9 rfl B 5 i0 Tryz.underlying321 Tryz.underlying9 hi hz0 hz1 hz2 _ _ _ rfl hown s rfl ?c3 ?c4 ?c5 ?_)
 case c3 => unfold maxLen; omega
 case c4 => omega
 case c5 => have:=hb1.size; omega
 intro v' w2 hown' hgrow _
 have hlt:b < w1.heap.size:=(Array.getElem?_eq_some_iff.1 hbk).1
 have hb2:w2.heap[b]?=some (.cells #[.pointer (some ⟨b,0,none⟩),v] 323 (0,0)):=by
  rw [hgrow.block b hlt (fun e => hne e.symm)]
  exact hbk
 have d0:w2.cell? ⟨b,0,none⟩=some (.pointer (some ⟨b,0,none⟩)):=by rw [cell_of_heap hb2]; rfl
 have d1:w2.cell? ⟨b,1,none⟩=some v:=by rw [cell_of_heap hb2]; rfl
 have f1:w2.frozen? ⟨b,1,none⟩=false:=frozen_of_heap hb2 1
 obtain ⟨ao,n',cap,rfl⟩:∃ ao n' cap,v'=.slice ao n' cap:=by
  rcases hown'.2 with ⟨hv,_⟩ | ⟨g,cap,cur,hv,_⟩
  ·exact ⟨_,_,_,hv⟩
  ·exact ⟨_,_,_,hv⟩
 go_wp2_with fail
 go_ret2
 exact ⟨rfl,.inr (BuilderAt.put hBb hb2 (bs':=bs ++ strCells s) (by simpa [strCells_length] using hown') (by decide)),(hb1.grown hgrow (by have:=hb1.size; omega) (fun k hk => (hown.lt k hk).1)).setCell (p:=⟨b,1,none⟩) hBb _⟩
theorem bldNew (B:Nat) (w:World) (hB:B≤w.heap.size):BIs B w.heap.size [] (w.alloc (.cells #[.pointer none,.slice none 0 0] 323)) :=
 .inl ⟨hB,.slice none 0 0,(MapKept.heap_alloc w _).1,World.ownsRow_nil _ _ _ _,fun h => by cases h⟩
theorem bldExtra:Builder.Extra Tryz.prog laysBsI_ren where
 sizeBuilder:=by kernel_rfl
 liesBuilder:=by kernel_rfl
 t5:=Tryz.underlying5
 a5:=Tryz.isAgg5
 z5:=Tryz.sizeOf5
 v5:=Tryz.zeroValue5
 infoByte:=by kernel_rfl
 cellsByte:=by kernel_rfl
 sizeByte:=by kernel_rfl
 neB5:=by decide
theorem bldString_is {B b:Nat} {l:List UInt8} {w:World} (h:BIs B b (byteCells l) w) (hB:B≤w.heap.size) :
  Calls Tryz.prog 214 #[.pointer (some ⟨b,0,none⟩)] w fun e w' => e=.returned (.string ⟨l.toArray⟩)∧Below B w w':=Any.Builder_String_any laysBsI bldExtra B b l w h hB
end
end Go.Proofs.YtamleilijmgoeaaGreatDoor
