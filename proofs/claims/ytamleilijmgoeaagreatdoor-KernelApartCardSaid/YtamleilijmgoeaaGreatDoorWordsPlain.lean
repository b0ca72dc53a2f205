/- Words of pages as a text, plain: pieces, rows, all; what a builder has. Conditions: each theorem's own premises. -/
import Derived.Test.YtamleilijmgoeaaGreatDoorVm
import Derived.Test.YtamleilijmgoeaaGreatDoorBld
import Derived.Test.YtamleilijmgoeaaGreatDoorNumText
import Derived.Test.YtamleilijmgoeaaGreatDoorBase
namespace Go.Proofs.YtamleilijmgoeaaGreatDoor
set_option linter.unusedVariables false
section
open Go.RowKit Go.Lib
def pieceT (v z:Int):ByteArray:=⟨(itoa v).toArray⟩ ++ ⟨#[44]⟩ ++ ⟨(itoa z).toArray⟩ ++ ⟨#[59]⟩
def pieceL (v z:Int):List UInt8:=itoa v ++ [44] ++ itoa z ++ [59]
theorem pieceT_eq (v z:Int):strCells (pieceT v z)=byteCells (pieceL v z):=by
 unfold pieceT pieceL strCells byteCells
 simp
def rowT (V Z:Int→Int→Int) (a:Nat):Nat→List UInt8
 | 0 => []
 | k+1 => rowT V Z a k ++ pieceL (V a k) (Z a k)
def allT (V Z:Int→Int→Int):Nat→List UInt8
 | 0 => []
 | a+1 => allT V Z a ++ rowT V Z a 8
theorem rowT_congr {V V' Z Z':Int→Int→Int} {a:Nat}:∀ {k:Nat},(∀ j:Nat,j < k→V a j=V' a j∧Z a j=Z' a j)→rowT V Z a k=rowT V' Z' a k
 | 0,_ => rfl
 | k+1,h => by
  have h1:=h k (by omega)
  show rowT V Z a k ++ pieceL (V a k) (Z a k)=rowT V' Z' a k ++ pieceL (V' a k) (Z' a k)
  rw [rowT_congr (fun j hj => h j (by omega)),h1.1,h1.2]
theorem allT_congr {V V' Z Z':Int→Int→Int}:∀ {n:Nat},(∀ a:Nat,a < n→∀ j:Nat,j < 8→V a j=V' a j∧Z a j=Z' a j)→allT V Z n=allT V' Z' n
 | 0,_ => rfl
 | n+1,h => by
  show allT V Z n ++ rowT V Z n 8=allT V' Z' n ++ rowT V' Z' n 8
  rw [allT_congr (fun a ha => h a (by omega)),rowT_congr (h n (by omega))]
def I64 (n:Int):Prop:=-9223372036854775808≤n∧n≤9223372036854775807
theorem pieceL_len {v z:Int} (hv:I64 v) (hz:I64 z):(pieceL v z).length≤50:=by
 have h1:=itoa_length_le v hv.1 hv.2
 have h2:=itoa_length_le z hz.1 hz.2
 unfold pieceL
 simp only [List.length_append,List.length_singleton]
 omega
theorem rowT_len {V Z:Int→Int→Int} (hV:∀ a k,I64 (V a k)) (hZ:∀ a k,I64 (Z a k)) (a:Nat):∀ k,(rowT V Z a k).length≤k * 50
 | 0 => by simp [rowT]
 | k+1 => by
  have h1:=rowT_len hV hZ a k
  have h2:=pieceL_len (hV a k) (hZ a k)
  show (rowT V Z a k ++ pieceL (V a k) (Z a k)).length≤_
  rw [List.length_append]
  omega
theorem allT_len {V Z:Int→Int→Int} (hV:∀ a k,I64 (V a k)) (hZ:∀ a k,I64 (Z a k)):∀ n,(allT V Z n).length≤n * 400
 | 0 => by simp [allT]
 | n+1 => by
  have h1:=allT_len hV hZ n
  have h2:=rowT_len hV hZ n 8
  show (allT V Z n ++ rowT V Z n 8).length≤_
  rw [List.length_append]
  omega
theorem byteCells_app (a b:List UInt8):byteCells (a ++ b)=byteCells a ++ byteCells b:=by simp [byteCells]
theorem byteCells_len (a:List UInt8):(byteCells a).length=a.length:=by simp [byteCells]
theorem pieceT_size {v z:Int} (hv:I64 v) (hz:I64 z):(pieceT v z).size≤50:=by
 have h:=strCells_length (pieceT v z)
 rw [pieceT_eq,byteCells_len] at h
 have:=pieceL_len hv hz
 omega
theorem turn_above {w w':World} {B:Nat} (h:Below B w w'):Turn (fun k => B≤k) w w':=⟨h.os,h.tape,h.output,h.size,fun k hk hn => h.block k (by omega)⟩
theorem BIs.turned {B b:Nat} {bs:List Value} {w w':World} (h:BIs B b bs w) (t:Turn (fun _ => False) w w'):BIs B b bs w':=by
 have one:∀ p,BAt B b p bs w→BAt B b p bs w':=fun p hp => by
  obtain ⟨h1,v,h2,h3,h4⟩:=hp
  refine ⟨h1,v,(t.block b (Array.getElem?_eq_some_iff.1 h2).1 id).trans h2,?_,h4⟩
  refine ⟨h3.1,?_⟩
  rcases h3.2 with h0 | ⟨g,cap,cur,rfl,hb,hg,r⟩
  ·exact .inl h0
  ·exact .inr ⟨g,cap,cur,rfl,hb,(t.block g (Array.getElem?_eq_some_iff.1 hg).1 id).trans hg,r⟩
 exact h.imp (one _) (one _)
theorem tell_vm (z:Int) (w:World) (hL:Laid w):Calls Tryz.prog 17 #[VmErr z] w fun e w' => e=.returned (.int .i64 z)∧Turn (fun _ => False) w w':=by
 by_cases h:z=0
 ·subst h
  exact (tell_nil w).mono fun e w' ⟨he,hw⟩ => ⟨he,hw ▸ Turn.refl _ _⟩
 ·rw [vmErr_of h]
  exact tell_errno z w hL
theorem accE_small (P:Int→Option Pg) (a wd pr:Int):0≤accE P a wd pr∧accE P a wd pr < 15:=by
 rcases accE_or P a wd pr with ⟨he,hn⟩ | he | he | ⟨he,_⟩ <;> omega
theorem loadV_range {P:Int→Option Pg} {m:Nat→Nat→Int} (hm:∀ f k,I64 (m f k)) (a wd:Int):I64 (loadV P m a wd):=by
 unfold loadV wordV
 split
 ·split
  ·exact ⟨by omega,by omega⟩
  ·exact hm _ _
 ·exact ⟨by omega,by omega⟩
end
end Go.Proofs.YtamleilijmgoeaaGreatDoor
