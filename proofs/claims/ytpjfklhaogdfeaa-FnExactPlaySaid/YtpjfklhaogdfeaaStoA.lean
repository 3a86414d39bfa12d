/- One builder of several: what it holds, and what its methods leave alone. -/
import Derived.Test.YtpjfklhaogdfeaaBldD
import Derived.Maps.OwnSet
set_option linter.all false
set_option maxRecDepth 100000
namespace Go.Vm
open Go.Proofs Go.RowKit
def pB (k:Nat):Value:= .pointer (some ⟨k,0,none⟩)
def Bd (w:World) (k:Nat) (l:List UInt8):Prop:=∃ p v,(p= .pointer none ∨ p= .pointer (some ⟨k,0,none⟩))∧xi 156 k p v w∧w.ownsRowF 0 5 1 v l.length (Lib.byteCells l)∧v.ownBlock ≠ some k
def ftB (w:World) (k:Nat):List Nat:=k :: iA w.heap[k]?
theorem rD {w:World} {k:Nat} {p v:Value} (h:xi 156 k p v w):ftB w k=k :: v.ownBlock.toList:=by
 have h':w.heap[k]? =some (.cells #[p,v] 156 (0,0)):=h
 simp only [ftB,h',iA]; rfl
theorem Bd.keep {w w':World} {k:Nat} {l:List UInt8} (h:Bd w k l) (hb:∀ x ∈ ftB w k,w'.heap[x]? =w.heap[x]?):Bd w' k l∧ftB w' k=ftB w k:=by
 obtain ⟨p,v,h1,h2,h3,h4⟩:=h
 have hf:=rD h2
 rw [hf] at hb
 have e:w'.heap[k]? =w.heap[k]? :=hb k (by simp)
 have h2':xi 156 k p v w':=e.trans h2
 exact ⟨⟨p,v,h1,h2',rk h3 fun g hg=>hb g (by simp [hg]),h4⟩,(rD h2').trans hf.symm⟩
theorem Bd.lt {w:World} {k:Nat} {l:List UInt8} (h:Bd w k l):∀ x ∈ ftB w k,x < w.heap.size:=by
 obtain ⟨p,v,h1,h2,h3,h4⟩:=h
 rw [rD h2]
 intro x hx
 rcases List.mem_cons.1 hx with rfl | hx
 ·exact v7 h2
 ·exact (h3.lt x (by simpa using hx)).2
theorem OU (w:World) (k:Nat):k ∈ ftB w k:=by simp [ftB]
theorem Vu (w:World):Bd (w.alloc (.cells #[.pointer none,.slice none 0 0] 156)) w.heap.size []∧ftB (w.alloc (.cells #[.pointer none,.slice none 0 0] 156)) w.heap.size=[w.heap.size]:=by
 have h:xi 156 w.heap.size (.pointer none) (.slice none 0 0) (w.alloc (.cells #[.pointer none,.slice none 0 0] 156)):=by
  show (w.heap.push _)[w.heap.size]? =_
  simp
 exact ⟨⟨_,_,.inl rfl,h,⟨rfl,.inl ⟨rfl,rfl⟩⟩,by simp [Value.ownBlock]⟩,rD h⟩
theorem ZC:nW 156:=⟨by kernel_rfl,by decide⟩
theorem Ul (l:List UInt8) (s:ByteArray):Lib.byteCells l++Lib.strCells s=Lib.byteCells (l++s.data.toList):=by
 simp [Lib.byteCells,Lib.strCells]
theorem ZF (w:World) (k:Nat) (l:List UInt8) (s:ByteArray) (h:Bd w k l) (hlen:l.length+s.size ≤ 140737488355328):
  Calls Try.prog 103 #[.pointer (some ⟨k,0,none⟩),.string s] w fun e w'=>e= .returned (.tuple #[.int .i64 s.size,.nilIface])∧Bd w' k (l++s.data.toList)∧Only (ftB w k) w w'∧∀ x ∈ ftB w' k,x < w.heap.size→x ∈ ftB w k:=by
 obtain ⟨p,v,h1,h2,h3,h4⟩:=h
 have hl:(Lib.byteCells l).length=l.length:=by simp [Lib.byteCells]
 refine (ez ZC k p v (Lib.byteCells l) s w h1 h2 (by rw [hl]; exact h3) h4 (by rw [hl]; exact hlen)).mono ?_
 rintro e w' ⟨rfl,v',k1,k2,k3,k4,k5⟩
 rw [Ul] at k2
 refine ⟨rfl,⟨_,v',.inr rfl,k1,by simpa [Lib.byteCells] using k2,k3⟩,by rw [rD h2]; exact k5,fun x hx hlt=>?_⟩
 rw [rD k1] at hx
 rw [rD h2]
 rcases List.mem_cons.1 hx with rfl | hx
 ·simp
 ·have:=k4 x (by simpa using hx) hlt
  simp [this]
theorem Vy (w:World) (k:Nat) (l:List UInt8) (h:Bd w k l):
  Calls Try.prog 110 #[.pointer (some ⟨k,0,none⟩)] w fun e w'=>e= .returned (.string ⟨l.toArray⟩)∧Bd w' k l∧ftB w' k=ftB w k∧Only (ftB w k) w w':=by
 obtain ⟨p,v,h1,h2,h3,h4⟩:=h
 refine (Ww ZC k p v l w h2 h3 h4).mono ?_
 rintro e w' ⟨rfl,k1,k2,k3⟩
 exact ⟨rfl,⟨p,v,h1,k1,k2,h4⟩,(rD k1).trans (rD h2).symm,by rw [rD h2]; exact k3⟩
set_option maxHeartbeats 1000000 in
theorem Lp (w:World) (k:Nat) (l:List UInt8) (h:Bd w k l):
  Calls Try.prog 107 #[.pointer (some ⟨k,0,none⟩)] w fun e w'=>e= .returned (.int .i64 l.length)∧w'=w:=by
 obtain ⟨p,v,h1,h2,h3,h4⟩:=h
 have c1:w.cell? ⟨k,1,none⟩=some v:=by
  have h2':w.heap[k]? =some (.cells #[p,v] 156 (0,0)):=h2
  rw [Lib.cell_of_heap h2']; rfl
 obtain ⟨ao,cap,rfl⟩:∃ ao cap,v= .slice ao l.length cap:=by
  rcases h3.2 with ⟨hv,h0⟩ | ⟨g,cap,cur,fz,hv,_⟩
  ·exact ⟨none,0,by rw [hv,h0]⟩
  ·exact ⟨_,_,hv⟩
 go_enter Try.func107,Try.ntmps107
 go_wp2
 go_ret
 exact ⟨rfl,rfl⟩
end Go.Vm
