/- Plain reckoning for the loops' functions. -/
import Derived.Test.YtpjfklhaogdfeaaGreatDoorVmKind
import Derived.IntWalk
set_option linter.unusedVariables false
set_option linter.unusedSimpArgs false
namespace Go.Vm
theorem vI {n:Int} (h:-9223372036854775808 ≤ n∧n ≤ 9223372036854775807):w64 n=n:=by
 exact IntWalk.i64_in _ h
def big:Nat:=9223372036854775807
theorem tE:big=9223372036854775807:=rfl
theorem w6 {α:Type} {l r:List α} {j:Nat} {x:α} (h:l.drop j=x :: r):j < l.length∧(j:Int) < l.length∧idx l j=some x∧l[j]? =some x∧l.drop (j+1)=r∧j+(r.length+1)=l.length:=by
 have hl:j < l.length:=by
  apply Classical.byContradiction
  intro hn
  rw [List.drop_eq_nil_of_le (by omega)] at h; cases h
 have hx:l[j]? =some x:=by rw [← List.head?_drop,h]; rfl
 refine ⟨hl,by omega,?_,hx,by rw [← List.drop_drop,h]; rfl,?_⟩
 ·unfold idx; rw [if_pos (by omega),Int.toNat_natCast]; exact hx
 ·have:=congrArg List.length h
  rw [List.length_drop,List.length_cons] at this; omega
theorem tV {α:Type} {l:List α} {j:Nat} (h:l.drop j=[]):¬ (j:Int) < l.length:=by
 have:=congrArg List.length h
 simp at this; omega
theorem vt {j n:Nat} (h:j < n) (hn:n ≤ big):w64 ((j:Int)+1)=((j+1:Nat):Int):=by
 rw [tE] at hn
 rw [vI (by omega)]; rfl
theorem fj {α:Type} (l:List α) (j:Nat):idx l (j:Int)=l[j]? :=by
 unfold idx; rw [if_pos (by omega),Int.toNat_natCast]
def few {α:Type} (l:List α):Prop:=l.length ≤ 1048576
theorem wE {α:Type} {l:List α} (h:few l):l.length ≤ big:=by unfold few at h; rw [tE]; omega
theorem yz {n e:Nat}:(n+1)+1+e=(n+1+e)+1:=by omega
theorem qR {e:Nat}:0+1+e=e+1:=by omega
theorem eD {l:List UInt8} {j:Nat} {c:UInt8} (h:idx l (j:Int)=some c):pZ l (j:Int)=some (c.toNat:Int):=by
 unfold pZ; rw [h]; rfl
end Go.Vm
