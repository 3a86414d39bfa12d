/- What a function hands back as its own may be taken as shared. -/
import Derived.Test.YtpjfklhaogdfeaaGreatDoorVmLayer
set_option linter.unusedVariables false
set_option linter.unusedSectionVars false
namespace Go.Vm
variable [Gl]
mutual
def lp:X→X
 | .own _ _ n _ cells _=> .d (.lst n cells)
 | .agg xs=> .agg (nz xs)
 | .tup xs=> .tup (nz xs)
 | x=>x
def nz:List X→List X
 | []=>[]
 | x :: xs=>lp x :: nz xs
end
mutual
def sI:X→Bool
 | .d _=>true
 | .nil=>true
 | .own .. =>true
 | .agg xs=>nh xs
 | .tup xs=>nh xs
 | _=>false
def nh:List X→Bool
 | []=>true
 | x :: xs=>sI x&&nh xs
end
def mN (w:World) (b:Nat):Nat:=match w.heap[b]? with
 | some (.cells cs _ _)=>cs.size
 | _=>0
theorem ba {S:Nat→Nat} {w:World} {b:Nat}:∀ {cs:List D} {xs:List Value} {o:Nat},RDl S w cs xs→(∀ t x,xs[t]? =some x→w.cell? ⟨b,o+t,none⟩=some x∧o+t < S b)→RDat S w cs b o
 | [],xs,o,h,hc=>trivial
 | c :: cs,xs,o,⟨v,r,e,h1,h2⟩,hc=>by
   subst e
   have h0:=hc 0 v rfl
   refine ⟨h0.2,⟨v,h0.1,h1⟩,ba h2 fun t x ht=>?_⟩
   have:=hc (t+1) x ht
   rw [show o+1+t=o+(t+1) by omega]
   exact this
theorem Qg {S:Nat→Nat} {w:World}:∀ {cs:List D},RDl S w cs []→cs=[]
 | [],_=>rfl
 | c :: cs,⟨v,r,e,_⟩=>by cases e
mutual
theorem RX.shr {S S2:Nat→Nat} {w:World} (hs:Stab S w S2 w):∀ (x:X) (v:Value) (bs:List Nat),sI x=true→RX S w x v bs→(∀ b ∈ bs,mN w b ≤ S2 b)→RX S2 w (lp x) v []
 | .d x,v,bs,_,⟨_,h⟩,_=>⟨rfl,RD.mono hs _ _ h⟩
 | .nil,v,bs,_,⟨_,h⟩,_=>⟨rfl,h⟩
 | .own e sz n cap cells lk,v,bs,_,⟨xs,h1,h2,h3,h4,h5⟩,hb=>by
   refine ⟨rfl,?_⟩
   have h2':=RDl.mono hs _ _ h2
   rcases h1.2 with ⟨rfl,h0⟩ | ⟨g,cp,cur,rfl,g1,g2,g3,g4,g5,g6⟩
   ·have hx:xs=[]:=List.eq_nil_of_length_eq_zero (by have:=h1.1; rw [h0] at this; simpa using this)
    subst hx
    have hc:=Qg h2'
    subst hc
    exact ⟨none,0,by rw [h0],by rw [h0]; exact Nat.le_refl _,fun _=>⟨h0,rfl,rfl⟩,fun p hp=>by cases hp⟩
   ·refine ⟨_,cp,rfl,g3,fun h=>(by cases h),fun p hp=>?_⟩
    cases hp
    refine ⟨.inl rfl,ba h2' fun t x ht=>?_⟩
    have hl:=(List.getElem?_eq_some_iff.1 ht).1
    have hxl:=h1.1
    have hg:=hb g (by rw [h3]; simp [Value.ownBlock])
    have hcs:mN w g=cur.size:=by simp only [mN,g2]
    have hle:n * sz ≤ cp * sz:=Nat.mul_le_mul_right _ g3
    refine ⟨?_,by simp only; omega⟩
    show w.cell? ⟨g,0+t,none⟩=_
    simp only [World.cell?,g2,Nat.zero_add]
    rw [← Array.getElem?_toList,← List.getElem?_take_of_lt (j:=n * sz) (by omega),g6]
    exact ht
 | .agg xs,v,bs,ho,⟨vs,hv,h⟩,hb=>⟨vs,hv,RXs.shr hs xs _ bs (by simpa only [sI] using ho) h hb⟩
 | .tup xs,v,bs,ho,⟨vs,hv,h⟩,hb=>⟨vs,hv,RXs.shr hs xs _ bs (by simpa only [sI] using ho) h hb⟩
 | .box _,_,_,ho,_,_=>by simp [sI] at ho
 | .par _,_,_,ho,_,_=>by simp [sI] at ho
 | .res _ _,_,_,ho,_,_=>by simp [sI] at ho
theorem RXs.shr {S S2:Nat→Nat} {w:World} (hs:Stab S w S2 w):∀ (xs:List X) (vs:List Value) (bs:List Nat),nh xs=true→RXs S w xs vs bs→(∀ b ∈ bs,mN w b ≤ S2 b)→RXs S2 w (nz xs) vs []
 | [],vs,bs,_,⟨h,_⟩,_=>⟨h,rfl⟩
 | x :: xs,vs,bs,ho,⟨v,r,b1,b2,hv,hbs,h1,h2⟩,hb=>by
   simp only [nh,Bool.and_eq_true] at ho
   subst hbs
   exact ⟨v,r,[],[],hv,rfl,RX.shr hs x v b1 ho.1 h1 fun b hm=>hb b (List.mem_append_left _ hm),RXs.shr hs xs r b2 ho.2 h2 fun b hm=>hb b (List.mem_append_right _ hm)⟩
end
mutual
theorem ew {ls:List Lent}:∀ (x:X) (v:Value),sI x=true→ParOK ls (lp x) v
 | .d x,v,_=>by simp only [lp,ParOK]
 | .nil,v,_=>by simp only [lp,ParOK]
 | .own ..,v,_=>by simp only [lp,ParOK]
 | .agg xs,v,h=>by
   simp only [lp,ParOK]
   intro vs _
   exact li xs _ (by simpa only [sI] using h)
 | .tup xs,v,h=>by
   simp only [lp,ParOK]
   intro vs _
   exact li xs _ (by simpa only [sI] using h)
 | .box _,_,ho=>by simp [sI] at ho
 | .par _,_,ho=>by simp [sI] at ho
 | .res _ _,_,ho=>by simp [sI] at ho
theorem li {ls:List Lent}:∀ (xs:List X) (vs:List Value),nh xs=true→ParOKs ls (nz xs) vs
 | [],vs,_=>by cases vs <;> simp only [nz,ParOKs]
 | x :: xs,[],_=>by simp only [nz,ParOKs]
 | x :: xs,v :: vs,h=>by
   simp only [nh,Bool.and_eq_true] at h
   simp only [nz,ParOKs]
   exact ⟨ew x v h.1,li xs vs h.2⟩
end
theorem Sound.shr {P:Program} {f:FuncId} {F F':List X→Option XOut} (h:Sound P f F) (hF:∀ xs out,F' xs=some out→∃ x,F xs=some (.ret x [])∧sI x=true∧out= .ret (lp x) []):Sound P f F':=by
 intro S w args xs bs hx hb out ho
 obtain ⟨x,h1,h2,rfl⟩:=hF xs out ho
 obtain ⟨q1,q2⟩:=h S w args xs bs hx hb _ h1
 refine ⟨q1,q2.mono ?_⟩
 rintro e w' ⟨S',a1,a2,a3,a4,a5,v,b1,ls',r1,r2,r3,r4,r5,r6,r7⟩
 refine ⟨fun b=>if b ∈ b1 then S' b+mN w' b else S' b,a1,a2,a3,a4,fun b hb1 hb2=>?_,v,[],ls',r1,?_,?_,by simp,?_,?_,r7⟩
 ·have hn:b ∉ b1:=fun hm=>by have:=r4 b hm; omega
  exact ⟨(a5 b hb1 hb2).1,(if_neg hn).trans (a5 b hb1 hb2).2⟩
 ·refine RX.shr (S:=S') (fun b o u h h'=>⟨?_,h'⟩) x v b1 h2 r2 fun b hm=>?_
  ·by_cases c:b ∈ b1
   ·simp only [c,if_true]; omega
   ·simp only [c,if_false]; exact h
  ·simp only [hm,if_true]; omega
 ·rw [List.nodup_append] at r3
  simpa using r3.2.1
 ·have hl:ls'=[]:=r5
  subst hl
  rfl
 ·exact ew x v h2
end Go.Vm
