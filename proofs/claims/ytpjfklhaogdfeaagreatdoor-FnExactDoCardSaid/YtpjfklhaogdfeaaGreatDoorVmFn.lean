/- A call of a function: what goes in, and what comes out. -/
import Derived.Test.YtpjfklhaogdfeaaGreatDoorVmRun2
set_option linter.unusedVariables false
set_option linter.unusedSectionVars false
set_option linter.unusedSimpArgs false
namespace Go.Vm
variable [Gl]
theorem ku (S:Nat→Nat) (w:World):∀ (xs:List X) (i:Nat) (vs:List Value) (bs:List Nat),RXs S w xs vs bs→xs.all rU=true→
  ∃ is:List Imp,is.map (fun i=>(i.id,i.ob))=(enter i xs).2∧is.flatMap (·.bs)=bs∧(∀ i ∈ is,i.ob.ver=1)∧(∀ i ∈ is,i.bs=xu w i.ob.o i.v)∧yF xs vs=is.map oy∧
    ∀ (c:C) (role:Nat→Option Nat),c.S=S→c.w=w→lB c role is→(∀ j v,vs[j]? =some v→R c (zj (enter i xs).1 (i+j)) v)∧∀ i ∈ is,ObOK c role i.id
 | [],i,vs,bs,⟨e,h⟩,_=>⟨[],rfl,by simp [h],by simp,by simp,by simp only [yF,List.map_nil],fun c role hS hw _=>⟨by subst e; simp,by simp⟩⟩
 | x :: xs,i,vs,bs,⟨v,r,b1,b2,e1,e2,h1,h2⟩,ha=>by
   simp only [List.all_cons,Bool.and_eq_true] at ha
   obtain ⟨is,i1,i2,i3,i4,i6,i9,i8,i5⟩:=m8 (fun _=>{}) i S w x 0 v b1 h1
   obtain ⟨is',i1',i4',i7',i9',i8',i5'⟩:=ku S w xs (i+1) r b2 h2 ha.2
   have hver:=mU (fun _=>{}) i x 0
   refine ⟨is++is',?_,?_,?_,?_,?_,?_⟩
   ·simp only [enter,List.map_append,i1,i1']
   ·rw [List.flatMap_append,i4,i4',e2]
   ·intro k hk
    rcases List.mem_append.1 hk with hk | hk
    ·have:(k.id,k.ob) ∈ (ofX (fun _=>{}) i x 0).2.1:=by rw [← i1]; exact List.mem_map.2 ⟨k,hk,rfl⟩
     exact hver _ this
    ·exact i7' k hk
   ·intro k hk
    rcases List.mem_append.1 hk with hk | hk
    ·exact i9 k hk
    ·exact i9' k hk
   ·subst e1
    simp only [yF,List.map_append,i8 ha.1,i8']
   ·intro c role hS hw hok
    obtain ⟨k1,k2⟩:=hok
    obtain ⟨q1,q2⟩:=i5 c role hS hw ⟨fun i hi=>k1 i (List.mem_append.2 (.inl hi)),fun i hi=>k2 i (List.mem_append.2 (.inl hi))⟩
    obtain ⟨q1',q2'⟩:=i5' c role hS hw ⟨fun i hi=>k1 i (List.mem_append.2 (.inr hi)),fun i hi=>k2 i (List.mem_append.2 (.inr hi))⟩
    refine ⟨?_,?_⟩
    ·intro j u hu
     subst e1
     simp only [enter,zj]
     cases j with
     | zero=>
       simp only [List.getElem?_cons_zero,Option.some.injEq] at hu
       subst hu
       rw [if_pos (Nat.add_zero i)]
       exact q1
     | succ j=>
       simp only [List.getElem?_cons_succ] at hu
       rw [if_neg (by omega)]
       have:=q1' j u hu
       rwa [show i+1+j=i+(j+1) by omega] at this
    ·intro k hk
     rcases List.mem_append.1 hk with hk | hk
     ·exact q2 k hk
     ·exact q2' k hk
theorem p9:∀ (xs:List X) (i n:Nat),(n < i ∨ i+xs.length ≤ n)→zj (enter i xs).1 n= .undef
 | [],_,_,_=>rfl
 | x :: xs,i,n,h=>by
   simp only [enter,zj]
   simp only [List.length_cons] at h
   rw [if_neg (by omega)]
   exact p9 xs (i+1) n (by omega)
end Go.Vm
