/- The contracts of package pipe: a pipe lies in one block: its bytes, and how many ends of each kind are open. Conditions: each theorem's own premises. Package pipe: Open. Conditions: each theorem's own premises. The contracts of package pipe, each in one piece, and of the document's own pipe: both lie alike in memory and answer alike. Conditions: each theorem's own premises. -/
import Derived.Test.YtncfmlifponjdaaGreatDoorProg
import Derived.Test.YtncfmlifponjdaaGreatDoorBase
import Derived.BigRegion
import Derived.Lib.Bytes
import Derived.Outline
namespace Go.Proofs.YtncfmlifponjdaaGreatDoor
open Go.RowKit
set_option linter.unusedVariables false
structure PipeIs (w:World) (p:Nat) (b:ByteArray) (e0 e1:Int):Prop where
 c0:w.cell? ⟨p,0,none⟩=some (.string b)
 c1:w.cell? ⟨p,1,none⟩=some (.int .i64 e0)
 c2:w.cell? ⟨p,2,none⟩=some (.int .i64 e1)
 free:∀ i,w.frozen? ⟨p,i,none⟩=false
theorem PipeIs.lt {w:World} {p:Nat} {b:ByteArray} {e0 e1:Int} (h:PipeIs w p b e0 e1):p < w.heap.size:=lt_of_cell h.c0
theorem PipeIs.turned {w w':World} {p:Nat} {b:ByteArray} {e0 e1:Int} {S:Nat→Prop} (h:PipeIs w p b e0 e1) (t:Turn S w w') (h1:¬ S p):PipeIs w' p b e0 e1 :=
 ⟨(t.cell (a:=⟨p,0,none⟩) h.lt h1).trans h.c0,(t.cell (a:=⟨p,1,none⟩) h.lt h1).trans h.c1,(t.cell (a:=⟨p,2,none⟩) h.lt h1).trans h.c2,fun i => (t.frozen (a:=⟨p,i,none⟩) h.lt h1).trans (h.free i)⟩
theorem turn_set (w:World) (p i:Nat) (v:Value):Turn (fun k => k=p) w (w.setCell ⟨p,i,none⟩ v):=(Turn.refl _ _).setCell _ _ (fun _ => rfl)
theorem PipeIs.drew {w:World} {p:Nat} {b:ByteArray} {e0 e1:Int} (h:PipeIs w p b e0 e1):PipeIs w.drew p b e0 e1:=⟨h.c0,h.c1,h.c2,h.free⟩
theorem PipeIs.set0 {w:World} {p:Nat} {b:ByteArray} {e0 e1:Int} (h:PipeIs w p b e0 e1) (b':ByteArray):PipeIs (w.setCell ⟨p,0,none⟩ (.string b')) p b' e0 e1:=by
 refine ⟨World.cell?_setCell_same _ _ _ h.c0,by rw [World.cell?_setCell_other _ _ _ _ (by intro e; injection e with _ e; omega)]; exact h.c1,by rw [World.cell?_setCell_other _ _ _ _ (by intro e; injection e with _ e; omega)]; exact h.c2,fun i => by rw [World.frozen?_setCell]; exact h.free i⟩
theorem PipeIs.set1 {w:World} {p:Nat} {b:ByteArray} {e0 e1:Int} (h:PipeIs w p b e0 e1) (e:Int):PipeIs (w.setCell ⟨p,1,none⟩ (.int .i64 e)) p b e e1:=by
 refine ⟨by rw [World.cell?_setCell_other _ _ _ _ (by intro e; injection e with _ e; omega)]; exact h.c0,World.cell?_setCell_same _ _ _ h.c1,by rw [World.cell?_setCell_other _ _ _ _ (by intro e; injection e with _ e; omega)]; exact h.c2,fun i => by rw [World.frozen?_setCell]; exact h.free i⟩
theorem PipeIs.set2 {w:World} {p:Nat} {b:ByteArray} {e0 e1:Int} (h:PipeIs w p b e0 e1) (e:Int):PipeIs (w.setCell ⟨p,2,none⟩ (.int .i64 e)) p b e0 e:=by
 refine ⟨by rw [World.cell?_setCell_other _ _ _ _ (by intro e; injection e with _ e; omega)]; exact h.c0,by rw [World.cell?_setCell_other _ _ _ _ (by intro e; injection e with _ e; omega)]; exact h.c1,World.cell?_setCell_same _ _ _ h.c2,fun i => by rw [World.frozen?_setCell]; exact h.free i⟩
/-! ### right -/
theorem end2 (w:World):Calls Tryz.prog 83 #[.int .i64 2] w fun e w' => e=.returned (.bool true)∧w=w':=by
 go_enter Tryz.func83,Tryz.ntmps83
 go_wp2
 go_ret
 exact ⟨rfl,rfl⟩
theorem end3 (w:World):Calls Tryz.prog 83 #[.int .i64 3] w fun e w' => e=.returned (.bool true)∧w=w':=by
 go_enter Tryz.func83,Tryz.ntmps83
 go_wp2
 go_ret
 exact ⟨rfl,rfl⟩
/-! ### Close -/
theorem close2 {w:World} {p:Nat} {b:ByteArray} {e0 e1:Int} (h:PipeIs w p b e0 e1) (hb:0 < e0) (hb2:e0≤1000000) :
  Calls Tryz.prog 63 #[.pointer (some ⟨p,0,none⟩),.int .i64 2] w fun e w' => e=.returned .nilIface∧PipeIs w' p b (e0 - 1) e1∧Turn (fun k => k=p) w w':=by
 have hc:=h.c1
 have hz:=h.free 1
 have hw:IntKind.i64.wrap (e0 - 1)=e0 - 1:=IntWalk.i64_in _ (by omega)
 have H:=hid h
 clear h
 go_enter Tryz.func63,Tryz.ntmps63
 go_wp2_with (go_at_call 83; refine (end2 _).mono ?_; rintro e w' ⟨rfl,rfl⟩)
 go_region
 all_goals go_wp2_with fail
 all_goals go_ret
 all_goals exact ⟨rfl,(H.out.set1 _).drew,(turn_set w p _ _).drew⟩
theorem close3 {w:World} {p:Nat} {b:ByteArray} {e0 e1:Int} (h:PipeIs w p b e0 e1) (hb:0 < e1) (hb2:e1≤1000000) :
  Calls Tryz.prog 63 #[.pointer (some ⟨p,0,none⟩),.int .i64 3] w fun e w' => e=.returned .nilIface∧PipeIs w' p b e0 (e1 - 1)∧Turn (fun k => k=p) w w':=by
 have hc:=h.c2
 have hz:=h.free 2
 have hw:IntKind.i64.wrap (e1 - 1)=e1 - 1:=IntWalk.i64_in _ (by omega)
 have H:=hid h
 clear h
 go_enter Tryz.func63,Tryz.ntmps63
 go_wp2_with (go_at_call 83; refine (end3 _).mono ?_; rintro e w' ⟨rfl,rfl⟩)
 go_region
 all_goals go_wp2_with fail
 all_goals go_ret
 all_goals exact ⟨rfl,(H.out.set2 _).drew,(turn_set w p _ _).drew⟩
theorem full_of {s:ByteArray} (h:0 < s.size):s.toList.isEmpty=false:=by
 rw [Go.Lib.toList_data]
 cases s with | mk d => cases d with | mk l => cases l with | nil => exact absurd h (by decide) | cons a t => rfl
theorem empty_of {s:ByteArray} (h:s.size=0):s=ByteArray.empty:=by
 cases s with | mk d => simp [ByteArray.size] at h; subst h; rfl
theorem ret_pair {a b:Int} {v:Value} (h:a=b):Ending.returned (.tuple #[.int .i64 a,v])=.returned (.tuple #[.int .i64 b,v]):=by rw [h]
theorem ext_all (s:ByteArray):s.extract 0 s.size=s:=by simp
theorem ext_none (s:ByteArray):s.extract 0 0=ByteArray.empty:=by simp
theorem ext_end (s:ByteArray):s.extract s.size s.size=ByteArray.empty:=by simp
theorem ret_str {a b:ByteArray} {v:Value} (h:a=b):Ending.returned (.tuple #[.string a,v])=.returned (.tuple #[.string b,v]):=by rw [h]
/-! ### Write -/
theorem write_nobody {w:World} {p:Nat} {b:ByteArray} {e1:Int} (h:PipeIs w p b 0 e1) (s:ByteArray) :
  Calls Tryz.prog 69 #[.pointer (some ⟨p,0,none⟩),.string s] w fun e w' => e=.returned (.tuple #[.int .i64 0,.iface 35 (.int .i64 14)])∧w=w':=by
 have hc:=h.c1
 clear h
 go_enter Tryz.func69,Tryz.ntmps69
 go_wp2_with fail
 go_ret2
 exact ⟨rfl,rfl⟩
theorem write_empty {w:World} {p:Nat} {b:ByteArray} {e0 e1:Int} (h:PipeIs w p b e0 e1) (he:0 < e0) (s:ByteArray) (hs:s.size=0) :
  Calls Tryz.prog 69 #[.pointer (some ⟨p,0,none⟩),.string s] w fun e w' => e=.returned (.tuple #[.int .i64 0,.nilIface])∧w=w':=by
 have hc:=h.c1
 obtain rfl:=empty_of hs
 clear h hs
 go_enter Tryz.func69,Tryz.ntmps69
 go_wp2_with fail
 go_ret2
 exact ⟨rfl,rfl⟩
theorem write_full {w:World} {p:Nat} {b:ByteArray} {e0 e1:Int} (h:PipeIs w p b e0 e1) (he:0 < e0) (s:ByteArray) (hs:0 < s.size) (hb:16≤b.size) (hb2:b.size≤1000000) :
  Calls Tryz.prog 69 #[.pointer (some ⟨p,0,none⟩),.string s] w fun e w' => e=.returned (.tuple #[.int .i64 0,.iface 35 (.int .i64 12)])∧w=w':=by
 have hc:=h.c1
 have hc0:=h.c0
 have hsb:=full_of hs
 clear h
 go_enter Tryz.func69,Tryz.ntmps69
 go_wp2_with fail
 go_ret2
 exact ⟨rfl,rfl⟩
theorem write_some {w:World} {p:Nat} {b:ByteArray} {e0 e1:Int} (h:PipeIs w p b e0 e1) (he:0 < e0) (s:ByteArray) (hs:0 < s.size) (hs2:s.size≤1000000) (hb:b.size < 16) (n:Nat) (hn:n=min s.size (16 - b.size)) :
  Calls Tryz.prog 69 #[.pointer (some ⟨p,0,none⟩),.string s] w fun e w' => e=.returned (.tuple #[.int .i64 n,.nilIface])∧PipeIs w' p (b ++ s.extract 0 n) e0 e1∧Turn (fun k => k=p) w w':=by
 have hc:=h.c1
 have hc0:=h.c0
 have hsb:=full_of hs
 have hz:=h.free 0
 have H:=hid h
 clear h
 go_enter Tryz.func69,Tryz.ntmps69
 go_wp2_with fail
 ·have en:n=16 - b.size:=by omega
  go_region
  all_goals go_wp2_with fail
  all_goals go_ret2
  all_goals exact ⟨ret_pair (by omega),by rw [en]; exact (H.out.set0 _).drew,(turn_set w p _ _).drew⟩
 ·have en:n=s.size:=by omega
  go_region
  all_goals go_wp2_with fail
  all_goals go_ret2
  all_goals exact ⟨ret_pair (by omega),by rw [en,ext_all]; exact (H.out.set0 _).drew,(turn_set w p _ _).drew⟩
/-! ### Read -/
theorem read_neg {w:World} {p:Nat} {b:ByteArray} {e0 e1:Int} (h:PipeIs w p b e0 e1) (n:Int) (hn:n < 0) :
  Calls Tryz.prog 65 #[.pointer (some ⟨p,0,none⟩),.int .i64 n] w fun e w' => e=.returned (.tuple #[.string ByteArray.empty,.iface 35 (.int .i64 2)])∧w=w':=by
 clear h
 go_enter Tryz.func65,Tryz.ntmps65
 go_wp2_with fail
 go_ret2
 exact ⟨rfl,rfl⟩
theorem read_none {w:World} {p:Nat} {b:ByteArray} {e0 e1:Int} (h:PipeIs w p b e0 e1) (n:Int) (hn:0 < n) (hb:b.size=0) (he:0 < e1) :
  Calls Tryz.prog 65 #[.pointer (some ⟨p,0,none⟩),.int .i64 n] w fun e w' => e=.returned (.tuple #[.string ByteArray.empty,.iface 35 (.int .i64 8)])∧w=w':=by
 have hc:=h.c2
 have hc0:=h.c0
 obtain rfl:=empty_of hb
 clear h
 go_enter Tryz.func65,Tryz.ntmps65
 go_wp2_with fail
 go_ret2
 exact ⟨rfl,rfl⟩
theorem read_some {w:World} {p:Nat} {b:ByteArray} {e0 e1:Int} (h:PipeIs w p b e0 e1) (n:Int) (hn:0≤n) (hb:b.size≤1000000) (hcase:n=0∨0 < b.size∨e1=0) (k:Nat) (hk:k=min n.toNat b.size) :
  Calls Tryz.prog 65 #[.pointer (some ⟨p,0,none⟩),.int .i64 n] w fun e w' => e=.returned (.tuple #[.string (b.extract 0 k),.nilIface])∧PipeIs w' p (b.extract k b.size) e0 e1∧Turn (fun k => k=p) w w':=by
 have hc:=h.c2
 have hc0:=h.c0
 have hz:=h.free 0
 have H:=hid h
 have HK:=hid hk
 clear h hk
 rcases hcase with rfl | hs | rfl
 ·have hk0:k=0:=by have:=HK.out; omega
  go_enter Tryz.func65,Tryz.ntmps65
  go_wp2_with fail
  all_goals go_ret2
  all_goals exact ⟨ret_str (by rw [hk0,ext_none]),by rw [hk0,ext_all]; exact H.out.set0 _,turn_set w p _ _⟩
 ·have hsb:=full_of hs
  go_enter Tryz.func65,Tryz.ntmps65
  go_wp2_with fail
  all_goals go_ret2
  all_goals first | exact ⟨ret_str (by rw [show k=b.size from by have:=HK.out; omega,ext_all]),by rw [show k=b.size from by have:=HK.out; omega,ext_end]; exact H.out.set0 _,turn_set w p _ _⟩ | exact ⟨ret_str (by rw [show k=n.toNat from by have:=HK.out; omega]),by rw [show k=n.toNat from by have:=HK.out; omega]; exact H.out.set0 _,turn_set w p _ _⟩
 ·go_enter Tryz.func65,Tryz.ntmps65
  go_wp2_with fail
  all_goals go_ret2
  all_goals first | exact ⟨ret_str (by rw [show k=b.size from by have:=HK.out; omega,ext_all]),by rw [show k=b.size from by have:=HK.out; omega,ext_end]; exact H.out.set0 _,turn_set w p _ _⟩ | exact ⟨ret_str (by rw [show k=n.toNat from by have:=HK.out; omega]),by rw [show k=n.toNat from by have:=HK.out; omega]; exact H.out.set0 _,turn_set w p _ _⟩
/-! ### Open -/
theorem open2 {w:World} {p:Nat} {b:ByteArray} {e0 e1:Int} (h:PipeIs w p b e0 e1) (hb:0≤e0) (hb2:e0≤1000000) :
  Calls Tryz.prog 61 #[.pointer (some ⟨p,0,none⟩),.int .i64 2] w fun e w' => e=.returned .nilIface∧PipeIs w' p b (e0+1) e1∧Turn (fun k => k=p) w w':=by
 have hc:=h.c1
 have hz:=h.free 1
 have hw:IntKind.i64.wrap (e0+1)=e0+1:=IntWalk.i64_in _ (by omega)
 have H:=hid h
 clear h
 go_enter Tryz.func61,Tryz.ntmps61
 go_wp2_with (go_at_call 83; refine (end2 _).mono ?_; rintro e w' ⟨rfl,rfl⟩)
 go_region
 all_goals go_wp2_with fail
 all_goals go_ret
 all_goals exact ⟨rfl,(H.out.set1 _).drew,(turn_set w p _ _).drew⟩
theorem open3 {w:World} {p:Nat} {b:ByteArray} {e0 e1:Int} (h:PipeIs w p b e0 e1) (hb:0≤e1) (hb2:e1≤1000000) :
  Calls Tryz.prog 61 #[.pointer (some ⟨p,0,none⟩),.int .i64 3] w fun e w' => e=.returned .nilIface∧PipeIs w' p b e0 (e1+1)∧Turn (fun k => k=p) w w':=by
 have hc:=h.c2
 have hz:=h.free 2
 have hw:IntKind.i64.wrap (e1+1)=e1+1:=IntWalk.i64_in _ (by omega)
 have H:=hid h
 clear h
 go_enter Tryz.func61,Tryz.ntmps61
 go_wp2_with (go_at_call 83; refine (end3 _).mono ?_; rintro e w' ⟨rfl,rfl⟩)
 go_region
 all_goals go_wp2_with fail
 all_goals go_ret
 all_goals exact ⟨rfl,(H.out.set2 _).drew,(turn_set w p _ _).drew⟩
def errV (z:Int):Value:=if z=0 then .nilIface else .iface 35 (.int .i64 z)
def turnR (e0 e1 k c:Int):Int×Int×Int :=
 if k=3 then (if e1+c < 0 then (6,e0,e1) else (0,e0,e1+c)) else if k=2 then (if e0+c < 0 then (6,e0,e1) else (0,e0+c,e1)) else (1,e0,e1)
def writeR (e0:Int) (b s:ByteArray):Nat×Int×ByteArray :=
 if e0=0 then (0,14,b) else if s.size=0 then (0,0,b) else if 16≤b.size then (0,12,b) else (min s.size (16 - b.size),0,b ++ s.extract 0 (min s.size (16 - b.size)))
def readR (e1:Int) (b:ByteArray) (n:Int):ByteArray×Int×ByteArray :=
 if n < 0 then (ByteArray.empty,2,b) else if 0 < n∧b.size=0∧0 < e1 then (ByteArray.empty,8,b) else (b.extract 0 (min n.toNat b.size),0,b.extract (min n.toNat b.size) b.size)
theorem end_no (k:Int) (h2:¬ k=2) (h3:¬ k=3) (w:World):Calls Tryz.prog 83 #[.int .i64 k] w fun e w' => e=.returned (.bool false)∧w=w':=by
 have g2:(k == 2)=false:=by simp [h2]
 have g3:(k == 3)=false:=by simp [h3]
 go_enter Tryz.func83,Tryz.ntmps83
 go_wp2
 go_ret
 exact ⟨rfl,rfl⟩
theorem open_any {w:World} {p:Nat} {b:ByteArray} {e0 e1:Int} (h:PipeIs w p b e0 e1) (h0:0≤e0∧e0≤1000) (h1:0≤e1∧e1≤1000) (k:Int) :
  Calls Tryz.prog 61 #[.pointer (some ⟨p,0,none⟩),.int .i64 k] w fun e w' => e=.returned (errV (turnR e0 e1 k 1).1)∧PipeIs w' p b (turnR e0 e1 k 1).2.1 (turnR e0 e1 k 1).2.2∧Turn (fun j => j=p) w w':=by
 by_cases k3:k=3
 ·subst k3
  have e:turnR e0 e1 3 1=(0,e0,e1+1):=by unfold turnR; rw [if_pos rfl,if_neg (by omega)]
  rw [e]
  exact open3 h h1.1 (by omega)
 ·by_cases k2:k=2
  ·subst k2
   have e:turnR e0 e1 2 1=(0,e0+1,e1):=by unfold turnR; rw [if_neg (by decide),if_pos rfl,if_neg (by omega)]
   rw [e]
   exact open2 h h0.1 (by omega)
  ·have e:turnR e0 e1 k 1=(1,e0,e1):=by unfold turnR; rw [if_neg k3,if_neg k2]
   rw [e]
   have HE:=hid (end_no k k2 k3)
   have H:=hid h
   clear h k2 k3
   go_enter Tryz.func61,Tryz.ntmps61
   go_wp2_with fail
   refine (HE.out w).mono ?_
   rintro e w' ⟨rfl,rfl⟩
   go_wp2_with fail
   go_ret
   exact ⟨rfl,H.out,Turn.refl _ _⟩
theorem turn_any {w:World} {p:Nat} {b:ByteArray} {e0 e1:Int} (h:PipeIs w p b e0 e1) (h0:0≤e0∧e0≤1000) (h1:0≤e1∧e1≤1000) (k c:Int) (hc:-1≤c∧c≤1) :
  Calls Tryz.prog 64 #[.pointer (some ⟨p,0,none⟩),.int .i64 k,.int .i64 c] w fun e w' => e=.returned (.int .i64 (turnR e0 e1 k c).1)∧PipeIs w' p b (turnR e0 e1 k c).2.1 (turnR e0 e1 k c).2.2∧Turn (fun j => j=p) w w':=by
 have H:=hid h
 have c1:=h.c1
 have c2:=h.c2
 have f1:=h.free 1
 have f2:=h.free 2
 obtain ⟨h00,h01⟩:=h0
 obtain ⟨h10,h11⟩:=h1
 obtain ⟨hc0,hc1⟩:=hc
 clear h
 by_cases k3:k=3
 ·subst k3
  by_cases hz:e1+c < 0
  ·have e:turnR e0 e1 3 c=(6,e0,e1):=by unfold turnR; rw [if_pos rfl,if_pos hz]
   rw [e]
   go_enter Tryz.func64,Tryz.ntmps64
   go_wp2_with fail
   go_ret
   exact ⟨rfl,H.out,Turn.refl _ _⟩
  ·have e:turnR e0 e1 3 c=(0,e0,e1+c):=by unfold turnR; rw [if_pos rfl,if_neg hz]
   rw [e]
   go_enter Tryz.func64,Tryz.ntmps64
   go_wp2_with fail
   go_ret
   exact ⟨rfl,H.out.set2 _,turn_set w p _ _⟩
 ·have g3:(k == 3)=false:=by simp [k3]
  by_cases k2:k=2
  ·subst k2
   by_cases hz:e0+c < 0
   ·have e:turnR e0 e1 2 c=(6,e0,e1):=by unfold turnR; rw [if_neg (by decide),if_pos rfl,if_pos hz]
    rw [e]
    go_enter Tryz.func64,Tryz.ntmps64
    go_wp2_with fail
    go_ret
    exact ⟨rfl,H.out,Turn.refl _ _⟩
   ·have e:turnR e0 e1 2 c=(0,e0+c,e1):=by unfold turnR; rw [if_neg (by decide),if_pos rfl,if_neg hz]
    rw [e]
    go_enter Tryz.func64,Tryz.ntmps64
    go_wp2_with fail
    go_ret
    exact ⟨rfl,H.out.set1 _,turn_set w p _ _⟩
  ·have e:turnR e0 e1 k c=(1,e0,e1):=by unfold turnR; rw [if_neg k3,if_neg k2]
   rw [e]
   have g2:(k != 2)=true:=by simp [k2]
   go_enter Tryz.func64,Tryz.ntmps64
   go_wp2_with fail
   go_ret
   exact ⟨rfl,H.out,Turn.refl _ _⟩
theorem pipeW_is {w:World} {p:Nat} {b:ByteArray} {e0 e1:Int} (h:PipeIs w p b e0 e1) (h0:0≤e0) (s:ByteArray) (hs:s.size≤1000) (hb:b.size≤16) :
  Calls Tryz.prog 69 #[.pointer (some ⟨p,0,none⟩),.string s] w fun e w' => e=.returned (.tuple #[.int .i64 (writeR e0 b s).1,errV (writeR e0 b s).2.1])∧PipeIs w' p (writeR e0 b s).2.2 e0 e1∧Turn (fun j => j=p) w w':=by
 by_cases hz:e0=0
 ·subst hz
  have e:writeR 0 b s=(0,14,b):=by unfold writeR; rw [if_pos rfl]
  rw [e]
  refine (write_nobody h s).mono ?_
  rintro e w' ⟨rfl,rfl⟩
  exact ⟨rfl,h,Turn.refl _ _⟩
 ·by_cases hs0:s.size=0
  ·have e:writeR e0 b s=(0,0,b):=by unfold writeR; rw [if_neg hz,if_pos hs0]
   rw [e]
   refine (write_empty h (by omega) s hs0).mono ?_
   rintro e w' ⟨rfl,rfl⟩
   exact ⟨rfl,h,Turn.refl _ _⟩
  ·by_cases hf:16≤b.size
   ·have e:writeR e0 b s=(0,12,b):=by unfold writeR; rw [if_neg hz,if_neg hs0,if_pos hf]
    rw [e]
    refine (write_full h (by omega) s (by omega) hf (by omega)).mono ?_
    rintro e w' ⟨rfl,rfl⟩
    exact ⟨rfl,h,Turn.refl _ _⟩
   ·have e:writeR e0 b s=(min s.size (16 - b.size),0,b ++ s.extract 0 (min s.size (16 - b.size))):=by unfold writeR; rw [if_neg hz,if_neg hs0,if_neg hf]
    rw [e]
    exact write_some h (by omega) s (by omega) (by omega) (by omega) _ rfl
/-! ### the document's Write,Read -/
theorem refWrite_is {w:World} {p:Nat} {b:ByteArray} {e0 e1:Int} (h:PipeIs w p b e0 e1) (h0:0≤e0) (s:ByteArray) (hs:s.size≤1000) (hb:b.size≤16) :
  Calls Tryz.prog 71 #[.pointer (some ⟨p,0,none⟩),.string s] w fun e w' => e=.returned (.tuple #[.int .i64 (writeR e0 b s).1,.int .i64 (writeR e0 b s).2.1])∧PipeIs w' p (writeR e0 b s).2.2 e0 e1∧Turn (fun j => j=p) w w':=by
 have hc:=h.c1
 have hc0:=h.c0
 have hfz:=h.free 0
 have H:=hid h
 clear h
 by_cases hz:e0=0
 ·subst hz
  have e:writeR 0 b s=(0,14,b):=by unfold writeR; rw [if_pos rfl]
  rw [e]
  go_enter Tryz.func71,Tryz.ntmps71
  go_wp2_with fail
  go_ret2
  exact ⟨rfl,H.out,Turn.refl _ _⟩
 ·have hz':(e0 == 0)=false:=by simp [hz]
  by_cases hs0:s.size=0
  ·have e:writeR e0 b s=(0,0,b):=by unfold writeR; rw [if_neg hz,if_pos hs0]
   rw [e]
   obtain rfl:=empty_of hs0
   go_enter Tryz.func71,Tryz.ntmps71
   go_wp2_with fail
   go_ret2
   exact ⟨rfl,H.out,Turn.refl _ _⟩
  ·have hsb:=full_of (s:=s) (by omega)
   by_cases hf:b.size=16
   ·have e:writeR e0 b s=(0,12,b):=by unfold writeR; rw [if_neg hz,if_neg hs0,if_pos (by omega)]
    rw [e]
    go_enter Tryz.func71,Tryz.ntmps71
    go_wp2_with fail
    go_ret2
    exact ⟨rfl,H.out,Turn.refl _ _⟩
   ·have e:writeR e0 b s=(min s.size (16 - b.size),0,b ++ s.extract 0 (min s.size (16 - b.size))):=by unfold writeR; rw [if_neg hz,if_neg hs0,if_neg (by omega)]
    rw [e]
    have hne:((16:Int) - b.size == 0)=false:=by
     have:¬ (16:Int) - b.size=0:=by omega
     simp [this]
    by_cases hg:s.size≤16 - b.size
    ·have em:min s.size (16 - b.size)=s.size:=by omega
     rw [em,ext_all]
     have hg':¬ (16:Int) - b.size < s.size:=by omega
     go_enter Tryz.func71,Tryz.ntmps71
     go_wp2_with fail
     go_ret2
     exact ⟨rfl,H.out.set0 _,turn_set w p _ _⟩
    ·have em:min s.size (16 - b.size)=16 - b.size:=by omega
     rw [em]
     have hg':(16:Int) - b.size < s.size:=by omega
     have hn':((16:Int) - b.size).toNat=16 - b.size:=by omega
     go_enter Tryz.func71,Tryz.ntmps71
     go_wp2_with fail
     all_goals go_ret2
     all_goals exact ⟨ret_pair (by omega),H.out.set0 _,turn_set w p _ _⟩
theorem refRead_is {w:World} {p:Nat} {b:ByteArray} {e0 e1:Int} (h:PipeIs w p b e0 e1) (h1:0≤e1) (n:Int) (hb:b.size≤16) :
  Calls Tryz.prog 67 #[.pointer (some ⟨p,0,none⟩),.int .i64 n] w fun e w' => e=.returned (.tuple #[.string (readR e1 b n).1,.int .i64 (readR e1 b n).2.1])∧PipeIs w' p (readR e1 b n).2.2 e0 e1∧Turn (fun j => j=p) w w':=by
 have hc:=h.c2
 have hc0:=h.c0
 have hfz:=h.free 0
 have H:=hid h
 clear h
 by_cases hn:n < 0
 ·have e:readR e1 b n=(ByteArray.empty,2,b):=by unfold readR; rw [if_pos hn]
  rw [e]
  go_enter Tryz.func67,Tryz.ntmps67
  go_wp2_with fail
  go_ret2
  exact ⟨rfl,H.out,Turn.refl _ _⟩
 ·by_cases hn0:n=0
  ·subst hn0
   have e:readR e1 b 0=(ByteArray.empty,0,b):=by
    unfold readR
    rw [if_neg (by decide),if_neg (by omega)]
    simp
   rw [e]
   go_enter Tryz.func67,Tryz.ntmps67
   go_wp2_with fail
   go_ret2
   exact ⟨rfl,H.out,Turn.refl _ _⟩
  ·have hn0':(n == 0)=false:=by simp [hn0]
   by_cases hb0:b.size=0
   ·obtain rfl:=empty_of hb0
    by_cases he:0 < e1
    ·have e:readR e1 ByteArray.empty n=(ByteArray.empty,8,ByteArray.empty):=by unfold readR; rw [if_neg hn,if_pos ⟨by omega,hb0,he⟩]
     rw [e]
     go_enter Tryz.func67,Tryz.ntmps67
     go_wp2_with fail
     go_ret2
     exact ⟨rfl,H.out,Turn.refl _ _⟩
    ·have e:readR e1 ByteArray.empty n=(ByteArray.empty,0,ByteArray.empty):=by
      unfold readR; rw [if_neg hn,if_neg (by omega)]
      simp
     rw [e]
     have he':decide (0 < e1)=false:=decide_eq_false he
     go_enter Tryz.func67,Tryz.ntmps67
     go_wp2_with fail
     all_goals go_ret2
     all_goals exact ⟨rfl,H.out.set0 _,turn_set w p _ _⟩
   ·have e:readR e1 b n=(b.extract 0 (min n.toNat b.size),0,b.extract (min n.toNat b.size) b.size):=by unfold readR; rw [if_neg hn,if_neg (by omega)]
    rw [e]
    have hsb:=full_of (s:=b) (by omega)
    by_cases hg:(b.size:Int) < n
    ·rw [show min n.toNat b.size=b.size by omega,ext_all,ext_end]
     go_enter Tryz.func67,Tryz.ntmps67
     go_wp2_with fail
     all_goals go_ret2
     all_goals exact ⟨ret_str (by first | rfl | rw [ext_all]),by first | (rw [ext_end]; exact H.out.set0 _) | exact H.out.set0 _,turn_set w p _ _⟩
    ·rw [show min n.toNat b.size=n.toNat by omega]
     go_enter Tryz.func67,Tryz.ntmps67
     go_wp2_with fail
     all_goals go_ret2
     all_goals exact ⟨rfl,H.out.set0 _,turn_set w p _ _⟩
end Go.Proofs.YtncfmlifponjdaaGreatDoor
