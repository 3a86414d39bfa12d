/- A call does what the abstract machine says. -/
import Derived.Test.YtpjfklhaogdfeaaGreatDoorVmCall
set_option linter.unusedVariables false
set_option linter.unusedSectionVars false
set_option linter.unusedSimpArgs false
namespace Go.Vm
variable [Gl]
theorem Ss {c c':C} {role role':Nat→Option Nat} (hobs:∀ id,ObOK c role id) (T:Nat→Prop)
  (hkeep:∀ b,b < c.w.heap.size→(∀ id,role b=some id→¬ T id)→c'.w.heap[b]? =c.w.heap[b]? ∧c'.S b=c.S b)
  (hstab:∀ b id o v,role b=some id→T id→o < c.S b→c.w.cell? ⟨b,o,none⟩=some v→o < c'.S b∧c'.w.cell? ⟨b,o,none⟩=some v)
  (hrole:∀ b,b < c.w.heap.size→role' b=role b)
  (hob:∀ j,¬ T j→c'.ob j=c.ob j∧c'.hd j=c.hd j)
  (hver:∀ id,T id→(c.ob id).ver < (c'.ob id).ver ∨
    ((c'.ob id).ver=(c.ob id).ver∧(c'.ob id).o.isRow=(c.ob id).o.isRow∧(c'.ob id).o.isBox=(c.ob id).o.isBox∧c'.hd id=c.hd id))
  (os:c'.w.os=c.w.os) (tape:c'.w.tape=c.w.tape) (output:c'.w.output=c.w.output) (size:c.w.heap.size ≤ c'.w.heap.size)
  (hnew:Le c c'→∀ id,T id→ObOK c' role' id):Ext c c' role role':=by
 have hle:Le c c':=by
  refine ⟨?_,?_,?_⟩
  ·intro b o v ho hv
   have hlt:=World.block_lt_of_cell? c.w ⟨b,o,none⟩ hv
   by_cases hr:∃ id,role b=some id∧T id
   ·obtain ⟨id,h1,h2⟩:=hr
    exact hstab b id o v h1 h2 ho hv
   ·have hk:=hkeep b hlt (fun id h1 h2=>hr ⟨id,h1,h2⟩)
    refine ⟨by rw [hk.2]; exact ho,?_⟩
    rw [World.cell?_of_block (w:=c.w) hk.1]; exact hv
  ·intro j
   by_cases hj:T j
   ·rcases hver j hj with h | h <;> omega
   ·rw [(hob j hj).1]; exact Nat.le_refl _
  ·intro j e
   by_cases hj:T j
   ·rcases hver j hj with h | h
    ·omega
    ·exact h.2
   ·rw [(hob j hj).1]; exact ⟨rfl,rfl,(hob j hj).2⟩
 refine ⟨hle,os,tape,output,size,?_,hrole,?_⟩
 ·intro b hb hr
  exact hkeep b hb (fun id h=>by rw [hr] at h; cases h)
 ·intro j
  by_cases hj:T j
  ·exact hnew hle j hj
  ·exact (hobs j).keep hle j (hob j hj).1 (hob j hj).2 fun b hb hl=>by
    have hk:=hkeep b hl (fun id h=>by rw [hb] at h; injection h with h; subst h; exact hj)
    exact ⟨hk.1,hk.2,by rw [hrole b hl]; exact hb⟩
theorem xw {j:Nat}:∀ (l:List (Nat×Ob)) (f:Nat→Ob),j ∉ l.map (·.1)→za f l j=f j
 | [],_,_=>rfl
 | (i,o) :: l,f,h=>by
   simp only [List.map_cons,List.mem_cons,not_or] at h
   simp only [za]
   rw [xw l _ h.2]
   exact zx _ _ h.1
theorem oq {j:Nat} {x:Ob}:∀ (l:List (Nat×Ob)) (f:Nat→Ob),(l.map (·.1)).Nodup→(j,x) ∈ l→za f l j=x
 | (i,o) :: l,f,hn,h=>by
   simp only [List.map_cons,List.nodup_cons] at hn
   simp only [za]
   rcases List.mem_cons.1 h with h | h
   ·cases h
    rw [xw l _ hn.1]; exact zq _ _ _
   ·exact oq l _ hn.2 h
theorem mS (ob:Nat→Ob) (id:Nat):∀ (ids:List Nat) (f:Nat→Ob),(f id).o=(ob id).o→(za f (zl ob ids) id).o=(ob id).o
 | [],f,h=>h
 | i :: ids,f,h=>by
   simp only [zl,List.map_cons,za]
   refine mS ob id ids _ ?_
   by_cases hi:id=i
   ·subst hi; simp [zq]
   ·simpa [zx _ _ hi] using h
mutual
theorem mU (ob:Nat→Ob) (d:Nat):∀ (x:X) (j:Nat),∀ p ∈ (ofX ob d x j).2.1,p.2.ver=(ob p.1).ver+1
 | .d _,_,p,h=>by simp [ofX] at h
 | .nil,_,p,h=>by simp [ofX] at h
 | .own ..,j,p,h=>by simp only [ofX,List.mem_singleton] at h; subst h; rfl
 | .res ..,j,p,h=>by simp only [ofX,List.mem_singleton] at h; subst h; rfl
 | .par _,_,p,h=>by simp [ofX] at h
 | .box xs,j,p,h=>by
   simp only [ofX,List.mem_append,List.mem_singleton] at h
   rcases h with h | h
   ·exact m7 ob d xs _ p h
   ·subst h; rfl
 | .agg xs,j,p,h=>m7 ob d xs j p h
 | .tup xs,j,p,h=>m7 ob d xs j p h
theorem m7 (ob:Nat→Ob) (d:Nat):∀ (xs:List X) (j:Nat),∀ p ∈ (yy ob d xs j).2.1,p.2.ver=(ob p.1).ver+1
 | [],_,p,h=>by simp [yy] at h
 | x :: xs,j,p,h=>by
   simp only [yy,List.mem_append] at h
   rcases h with h | h
   ·exact mU ob d x j p h
   ·exact m7 ob d xs _ p h
end
theorem rn:∀ {l:List Nat},zF l=true→l.Nodup
 | [],_=>List.nodup_nil
 | x :: r,h=>by
   simp only [zF,Bool.and_eq_true,Bool.not_eq_true',List.any_eq_false,beq_iff_eq] at h
   exact List.nodup_cons.2 ⟨fun hx=>h.1 x hx rfl,rn h.2⟩
theorem dP {S:Nat→Nat} {w:World}:∀ {xs:List D} {vs:List Value},RDl S w xs vs→RXs S w (xs.map .d) vs []
 | [],_,h=>⟨h,rfl⟩
 | x :: xs,_,⟨v,r,e,hx,hr⟩=>⟨v,r,[],[],e,rfl,⟨rfl,hx⟩,dP hr⟩
theorem Wq:∀ (xs:List D),(xs.map X.d).all uv=true
 | []=>rfl
 | x :: xs=>by simp [uv,Wq xs]
def qM (c:C) (id:Nat):Prop:=(∃ cells,(c.ob id).o= .box cells) ∨ ((c.ob id).leak=false∧∃ e sz n cap cells,(c.ob id).o= .row e sz n cap cells) ∨ ∃ k x,(c.ob id).o= .res k x
def zO (c:C) (id:Nat):Lent:=match (c.ob id).o with
 | .row e s _ _ _=> .row (c.hd id) e s
 | .res k _=> .res k (c.hd id)
 | _=> .box ((yS (c.hd id)).getD 0)
section
variable {c:C} {role:Nat→Option Nat} (hobs:∀ id,ObOK c role id)
include hobs
theorem nN {id:Nat} {cells:List A} (h:(c.ob id).o= .box cells):∃ b,c.hd id= .pointer (some ⟨b,0,none⟩)∧role b=some id:=by
 obtain ⟨b,cs,et,h1,_,_,_,_,h6⟩:=wQ (hobs id) h
 exact ⟨b,h1,h6⟩
theorem pL {id:Nat} (h:qM c id):∀ b ∈ blk c id,role b=some id:=by
 intro b hb
 unfold blk xu at hb
 rcases h with ⟨cells,ho⟩ | ⟨hlk,e,sz,n,cap,cells,ho⟩ | ⟨k,x,ho⟩
 ·obtain ⟨b',h1,h2⟩:=nN hobs ho
  rw [ho,h1] at hb
  simp only [yS,Option.toList_some,List.mem_singleton] at hb
  subst hb; exact h2
 ·obtain ⟨xs,h1,h2,h3,h4⟩:=x9 (hobs id) ho
  rw [ho] at hb
  simp only [xe h1,Option.mem_toList] at hb
  exact (h3 b hb).1
 ·obtain ⟨vs,h1,h2,h3⟩:=sX (hobs id) ho
  rw [ho] at hb
  exact (h3 b hb).1
theorem eA {id:Nat} (h:qM c id):(blk c id).Nodup:=by
 unfold blk xu
 rcases h with ⟨cells,ho⟩ | ⟨hlk,e,sz,n,cap,cells,ho⟩ | ⟨k,x,ho⟩
 ·rw [ho]; cases yS (c.hd id) <;> simp
 ·rw [ho]; cases yS (c.hd id) <;> simp
 ·obtain ⟨vs,h1,h2,h3⟩:=sX (hobs id) ho
  rw [ho]; exact h1.nodup
theorem eK:∀ {ids:List Nat},ids.Nodup→(∀ id ∈ ids,qM c id)→(ids.flatMap (blk c)).Nodup
 | [],_,_=>List.nodup_nil
 | id :: ids,hn,h=>by
   simp only [List.nodup_cons] at hn
   rw [List.flatMap_cons,List.nodup_append]
   refine ⟨eA hobs (h id (by simp)),eK hn.2 fun i hi=>h i (by simp [hi]),?_⟩
   rintro a ha b hb rfl
   obtain ⟨i,hi,hib⟩:=List.mem_flatMap.1 hb
   have q1:=pL hobs (h i (by simp [hi])) a hib
   have q2:=pL hobs (h id (by simp)) a ha
   rw [q1] at q2; injection q2 with q2; subst q2
   exact hn.1 hi
mutual
theorem Ke (m:Bool):∀ (a:A) (v:Value) (x:X) (ls ms:List Nat),toX m c.ob a=some (x,ls,ms)→R c a v→
  (∀ id ∈ ls,∃ e sz n cap cells,(c.ob id).o= .row e sz n cap cells)∧(∀ id ∈ ms,qM c id)∧sF x v=ms.map (zO c)∧
  ∀ S',Stab c.S c.w S' c.w→(∀ id ∈ ls,∀ e sz n cap cells,(c.ob id).o= .row e sz n cap cells→∀ b,(c.hd id).ownBlock=some b→S' b=n * sz)→
    (∀ id ∈ ms,∀ b ∈ blk c id,S' b=0)→RX S' c.w x v (ms.flatMap (blk c))
 | .d x,v,y,ls,ms,h,hr=>by
   simp only [toX,Option.some.injEq,Prod.mk.injEq] at h
   obtain ⟨rfl,rfl,rfl⟩:=h
   exact ⟨by simp,by simp,rfl,fun S' hS _ _=>⟨rfl,RD.mono hS _ _ hr⟩⟩
 | .nil,v,y,ls,ms,h,hr=>by
   simp only [toX,Option.some.injEq,Prod.mk.injEq] at h
   obtain ⟨rfl,rfl,rfl⟩:=h
   simp only [R] at hr; subst hr
   cases m with
   | true=>exact ⟨by simp,by simp,rfl,fun S' hS _ _=>⟨rfl,rfl⟩⟩
   | false=>exact ⟨by simp,by simp,rfl,fun S' hS _ _=>⟨rfl,none,0,rfl,Nat.le_refl _,fun _=>⟨rfl,rfl,rfl⟩,by simp⟩⟩
 | .row id ver,v,y,ls,ms,h,hr=>by
   simp only [toX] at h
   split at h
   ·rename_i e sz n cap cells ho
    split at h
    ·rename_i hv
     cases m with
     | false=>
       simp only [Bool.false_eq_true,if_false,Option.some.injEq,Prod.mk.injEq] at h
       obtain ⟨rfl,rfl,rfl⟩:=h
       have hsn:yC c.ob (.row id ver)=some (.lst n cells,[id]):=by simp only [yC,ho,hv,if_true]
       obtain ⟨p1,p2⟩:=bU hobs hsn hr
       exact ⟨p1,by simp,rfl,fun S' hS hb _=>⟨rfl,p2 S' hS hb⟩⟩
     | true=>
       simp only [if_true] at h
       split at h
       ·rename_i hlk
        simp only [Option.some.injEq,Prod.mk.injEq] at h
        obtain ⟨rfl,rfl,rfl⟩:=h
        have hv':v=c.hd id:=hr.2.2 hv.symm (by rw [ho]; rfl)
        obtain ⟨xs,h1,h2,h3,h4⟩:=x9 (hobs id) ho
        refine ⟨by simp,by simp only [List.mem_singleton,forall_eq]; exact .inr (.inl ⟨hlk,e,sz,n,cap,cells,ho⟩),?_,?_⟩
        ·simp only [sF,List.map_cons,List.map_nil,zO,ho,hv']
        ·intro S' hS _ hb
         refine ⟨xs,by rw [hv']; exact h1,RDl.mono hS _ _ h2,?_,?_,?_⟩
         ·rw [hv']; simp [blk,xu,ho,xe h1]
         ·intro b hbl
          rw [hv'] at hbl
          simp only [Bool.false_eq_true,if_false]
          exact hb id (by simp) b (by simp [blk,xu,ho,xe h1,hbl])
         ·intro k hk; cases hk
       ·cases h
    ·cases h
   ·rename_i k x ho
    split at h
    ·rename_i hv
     simp only [Option.some.injEq,Prod.mk.injEq] at h
     obtain ⟨rfl,rfl,rfl⟩:=h
     have hv':v=c.hd id:=hr.2.2 hv.symm (by rw [ho]; rfl)
     obtain ⟨vs,h1,h2,h3⟩:=sX (hobs id) ho
     refine ⟨by simp,by simp only [List.mem_singleton,forall_eq]; exact .inr (.inr ⟨k,x,ho⟩),?_,?_⟩
     ·simp only [sF,List.map_cons,List.map_nil,zO,ho,hv']
     ·intro S' hS _ hb
      refine ⟨vs,by rw [hv']; exact h1,RDl.mono hS _ _ h2,by rw [hv']; simp [blk,xu,ho],?_⟩
      intro b hbl
      simp only [List.flatMap_cons,List.flatMap_nil,List.append_nil] at hbl
      exact hb id (by simp) b hbl
    ·cases h
   ·cases h
 | .adr id ver off,v,y,ls,ms,h,hr=>by
   simp only [toX] at h
   split at h
   ·rename_i cells ho
    split at h
    ·rename_i hv
     obtain ⟨xs,hxs,e⟩:=map_some h
     simp only [Prod.mk.injEq] at e
     obtain ⟨rfl,rfl,rfl⟩:=e
     obtain ⟨b,cs,et,h1,h2,h3,h4,h5,h6⟩:=wQ (hobs id) ho
     obtain ⟨b',e7,e8⟩:=hr.2.2 hv.1.symm (by rw [ho]; rfl)
     rw [h1] at e7
     obtain rfl:b=b':=by injection e7 with e7; injection e7 with e7; injection e7
     refine ⟨by simp,by simp only [List.mem_singleton,forall_eq]; exact .inl ⟨cells,ho⟩,?_,?_⟩
     ·simp only [sF,e8,List.map_cons,List.map_nil,zO,ho,h1,yS,Option.getD_some]
     ·intro S' hS _ hb
      have hR:RDl S' c.w xs cs.toList:=RDl.mono hS _ _ (by
       have:∀ (cells:List A) (xs:List D) (vs:List Value),xE cells=some xs→Rl c cells vs→RDl c.S c.w xs vs:=by
        intro cells
        induction cells with
        | nil=>intro xs vs h hr; simp only [xE,Option.some.injEq] at h; subst h; exact hr
        | cons a cells ih=>
          rintro xs vs h ⟨v,r,e,hv,hr⟩
          cases a <;> simp only [xE,Option.map_eq_some_iff,reduceCtorEq] at h
          obtain ⟨ys,hy,rfl⟩:=h
          exact ⟨v,r,e,hv,ih ys r hy hr⟩
       exact this cells xs _ hxs h3)
      refine ⟨b,cs,et,[],?_,h2,dP hR,?_,hb id (by simp) b (by simp [blk,xu,ho,h1,yS]),Wq xs⟩
      ·rw [e8,hv.2]
      ·simp [blk,xu,ho,h1,yS]
    ·cases h
   ·cases h
 | .agg as,v,y,ls,ms,h,hr=>by
   simp only [toX] at h
   obtain ⟨⟨xs,l,k⟩,hxs,e⟩:=map_some h
   simp only [Prod.mk.injEq] at e
   obtain ⟨rfl,rfl,rfl⟩:=e
   obtain ⟨vs,e1,H⟩:=hr
   obtain ⟨p1,p2,p4,p3⟩:=ci m as vs.toList xs l k hxs H
   exact ⟨p1,p2,by rw [e1]; exact p4,fun S' a b c'=>⟨vs,e1,p3 S' a b c'⟩⟩
 | .undef,_,_,_,_,h,_=>by simp [toX] at h
 | .rad ..,_,_,_,_,h,_=>by simp [toX] at h
 | .vw ..,_,_,_,_,h,_=>by simp [toX] at h
 | .cp _,_,_,_,_,h,_=>by simp [toX] at h
 | .tup _,_,_,_,_,h,_=>by simp [toX] at h
theorem ci (m:Bool):∀ (as:List A) (vs:List Value) (xs:List X) (ls ms:List Nat),wq m c.ob as=some (xs,ls,ms)→Rl c as vs→
  (∀ id ∈ ls,∃ e sz n cap cells,(c.ob id).o= .row e sz n cap cells)∧(∀ id ∈ ms,qM c id)∧yF xs vs=ms.map (zO c)∧
  ∀ S',Stab c.S c.w S' c.w→(∀ id ∈ ls,∀ e sz n cap cells,(c.ob id).o= .row e sz n cap cells→∀ b,(c.hd id).ownBlock=some b→S' b=n * sz)→
    (∀ id ∈ ms,∀ b ∈ blk c id,S' b=0)→RXs S' c.w xs vs (ms.flatMap (blk c))
 | [],vs,xs,ls,ms,h,hr=>by
   simp only [wq,Option.some.injEq,Prod.mk.injEq] at h
   obtain ⟨rfl,rfl,rfl⟩:=h
   exact ⟨by simp,by simp,by simp only [yF,List.map_nil],fun S' _ _ _=>⟨hr,rfl⟩⟩
 | a :: as,vs,xs,ls,ms,h,⟨v,r,e,hv,hr⟩=>by
   simp only [wq] at h
   obtain ⟨⟨x,l,k⟩,hx,h⟩:=bind_some h
   obtain ⟨⟨ys,l',k'⟩,hys,e'⟩:=map_some h
   simp only [Prod.mk.injEq] at e'
   obtain ⟨rfl,rfl,rfl⟩:=e'
   obtain ⟨p1,p2,p4,p3⟩:=Ke m a v x l k hx hv
   obtain ⟨q1,q2,q4,q3⟩:=ci m as r ys l' k' hys hr
   refine ⟨?_,?_,?_,?_⟩
   ·intro id hid; rcases List.mem_append.1 hid with h | h
    ·exact p1 id h
    ·exact q1 id h
   ·intro id hid; rcases List.mem_append.1 hid with h | h
    ·exact p2 id h
    ·exact q2 id h
   ·subst e
    simp only [yF,List.map_append,p4,q4]
   ·intro S' h1 h2 h3
    refine ⟨v,r,_,_,e,List.flatMap_append ..,p3 S' h1 (fun id hid=>h2 id (List.mem_append.2 (.inl hid))) (fun id hid=>h3 id (List.mem_append.2 (.inl hid))),
     q3 S' h1 (fun id hid=>h2 id (List.mem_append.2 (.inr hid))) (fun id hid=>h3 id (List.mem_append.2 (.inr hid)))⟩
end
end
end Go.Vm
