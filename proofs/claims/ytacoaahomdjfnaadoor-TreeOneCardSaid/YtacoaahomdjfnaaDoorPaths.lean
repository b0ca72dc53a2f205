/- Paths: which names one has. Plain: no program in sight. No condition. -/
import Derived.Test.YtacoaahomdjfnaaDoorBase
import Derived.Lib.SplitLaws
import Derived.Lib.Strings
namespace Go.Proofs.YtacoaahomdjfnaaDoor
set_option linter.unusedVariables false
section
open Go.Lib
def slash:ByteArray:=⟨#[47]⟩
def piecesOf (s:ByteArray):List ByteArray:=splitB slash 0 (countB s slash) s
theorem pieces_length (s:ByteArray):(piecesOf s).length=countB s slash+1:=splitB_all slash (by decide) 0 _ s rfl
theorem pieces_le (s:ByteArray):(piecesOf s).length≤s.size+1:=by
 rw [pieces_length]
 have:=countB_le slash (by decide) s.size s (Nat.le_refl _)
 omega
theorem pieces_ne (s:ByteArray):piecesOf s≠[]:=fun e => by
 have h:=pieces_length s
 rw [e] at h
 simp at h
def led (s:ByteArray):Bool:=hasPrefix s.data.toList [47]
theorem led_size {s:ByteArray} (h:led s=true):1≤s.size:=by
 unfold led hasPrefix at h
 rw [size_eq]
 cases e:s.data.toList with
 | nil => rw [e] at h; cases h
 | cons a l => simp
theorem empty_of_size {s:ByteArray} (h:s.size=0):s=ByteArray.empty:=by
 have h1:s.data.toList.length=0:=by rw [← size_eq]; exact h
 have h2:s.data.toList=[]:=List.length_eq_zero_iff.1 h1
 have h3:(⟨s.data.toList.toArray⟩:ByteArray)=⟨([]:List UInt8).toArray⟩:=by rw [h2]
 rw [mk_data] at h3
 exact h3
theorem extract_size (s:ByteArray) (a b:Nat) (h:b≤s.size):(s.extract a b).size=b - a:=by
 rw [size_eq,extract_data,List.length_take,List.length_drop,← size_eq]
 omega
def okName (s:ByteArray):Bool:=decide (1≤s.size) && decide (s.size≤12) && !(s.toList == [46]) && !(s.toList == [46,46])
def namesOf (p:ByteArray):Option (List ByteArray) :=
 if led p then (if p.size=1 then some [] else if (piecesOf (p.extract 1 p.size)).all okName then some (piecesOf (p.extract 1 p.size)) else none) else none
theorem namesOf_root {p:ByteArray} (h:led p=true) (h1:p.size=1):namesOf p=some []:=by unfold namesOf; rw [if_pos h,if_pos h1]
theorem namesOf_unled {p:ByteArray} (h:led p=false):namesOf p=none:=by unfold namesOf; rw [if_neg (by rw [h]; exact Bool.false_ne_true)]
theorem namesOf_ok {p:ByteArray} (h:led p=true) (h1:p.size≠1) (h2:(piecesOf (p.extract 1 p.size)).all okName=true):namesOf p=some (piecesOf (p.extract 1 p.size)):=by unfold namesOf; rw [if_pos h,if_neg h1,if_pos h2]
theorem namesOf_bad {p:ByteArray} (h:led p=true) (h1:p.size≠1) (h2:(piecesOf (p.extract 1 p.size)).all okName=false):namesOf p=none:=by unfold namesOf; rw [if_pos h,if_neg h1,if_neg (by rw [h2]; exact Bool.false_ne_true)]
theorem namesOf_names {p:ByteArray} {l:List ByteArray} (h:namesOf p=some l):∀ s∈l,okName s=true:=by
 unfold namesOf at h
 split at h
 ·split at h
  ·cases h; intro s hs; cases hs
  ·split at h
   ·rename_i h3
    cases h
    exact List.all_eq_true.1 h3
   ·cases h
 ·cases h
theorem namesOf_length {p:ByteArray} {l:List ByteArray} (h:namesOf p=some l):l.length≤p.size:=by
 unfold namesOf at h
 split at h
 ·rename_i h0
  split at h
  ·cases h; exact Nat.zero_le _
  ·split at h
   ·cases h
    have h1:=pieces_le (p.extract 1 p.size)
    rw [extract_size p 1 p.size (Nat.le_refl _)] at h1
    have:=led_size h0
    omega
   ·cases h
 ·cases h
end
end Go.Proofs.YtacoaahomdjfnaaDoor
