/- A call does what the abstract machine says. -/
import Derived.Test.YtpjfklhaogdfeaaVmCall
set_option linter.unusedVariables false
set_option linter.unusedSectionVars false
set_option linter.unusedSimpArgs false
namespace Go.Vm
variable [Gl]
theorem Qt {c c':C} {role role':Nat→Option Nat} (hobs:∀ id,ObOK c role id) (T:Nat→Prop)
  (hkeep:∀ b,b < c.w.heap.size→(∀ id,role b=some id→¬ T id)→c'.w.heap[b]? =c.w.heap[b]? ∧c'.S b=c.S b)
  (hstab:∀ b id o v,role b=some id→T id→o < c.S b→c.w.cell? ⟨b,o,none⟩=some v→o < c'.S b∧c'.w.cell? ⟨b,o,none⟩=some v)
  (hrole:∀ b,b < c.w.heap.size→role' b=role b)
  (hob:∀ j,¬ T j→c'.ob j=c.ob j∧c'.hd j=c.hd j)
  (hver:∀ id,T id→(c.ob id).ver < (c'.ob id).ver ∨
    ((c'.ob id).ver=(c.ob id).ver∧(c'.ob id).o.isRow=(c.ob id).o.isRow∧(c'.ob id).o.isBox=(c.ob id).o.isBox∧c'.hd id=c.hd id))
  (os:c'.w.os=c.w.os) (tape:c'.w.tape=c.w.tape) (output:c'.w.output=c.w.output) (size:c.w.heap.size ≤ c'.w.heap.size)
  (hnew:Le c c'→∀ id,T id→ObOK c' role' id):Ext c c' role role':=by
 have hle:Le c c':=by
  refine ⟨?_,?_,?_⟩
  ·intro b o v ho hv
   have hlt:=World.block_lt_of_cell? c.w ⟨b,o,none⟩ hv
   by_cases hr:∃ id,role b=some id∧T id
   ·obtain ⟨id,h1,h2⟩:=hr
    exact hstab b id o v h1 h2 ho hv
   ·have hk:=hkeep b hlt (fun id h1 h2=>hr ⟨id,h1,h2⟩)
    refine ⟨by rw [hk.2]; exact ho,?_⟩
    rw [World.cell?_of_block (w:=c.w) hk.1]; exact hv
  ·intro j
   by_cases hj:T j
   ·rcases hver j hj with h | h <;> omega
   ·rw [(hob j hj).1]; exact Nat.le_refl _
  ·intro j e
   by_cases hj:T j
   ·rcases hver j hj with h | h
    ·omega
    ·exact h.2
   ·rw [(hob j hj).1]; exact ⟨rfl,rfl,(hob j hj).2⟩
 refine ⟨hle,os,tape,output,size,?_,hrole,?_⟩
 ·intro b hb hr
  exact hkeep b hb (fun id h=>by rw [hr] at h; cases h)
 ·intro j
  by_cases hj:T j
  ·exact hnew hle j hj
  ·exact (hobs j).keep hle j (hob j hj).1 (hob j hj).2 fun b hb hl=>by
    have hk:=hkeep b hl (fun id h=>by rw [hb] at h; injection h with h; subst h; exact hj)
    exact ⟨hk.1,hk.2,by rw [hrole b hl]; exact hb⟩
theorem xX {j:Nat}:∀ (l:List (Nat×Ob)) (f:Nat→Ob),j ∉ l.map (·.1)→za f l j=f j
 | [],_,_=>rfl
 | (i,o) :: l,f,h=>by
   simp only [List.map_cons,List.mem_cons,not_or] at h
   simp only [za]
   rw [xX l _ h.2]
   exact zI _ _ h.1
theorem nP {j:Nat} {x:Ob}:∀ (l:List (Nat×Ob)) (f:Nat→Ob),(l.map (·.1)).Nodup→(j,x) ∈ l→za f l j=x
 | (i,o) :: l,f,hn,h=>by
   simp only [List.map_cons,List.nodup_cons] at hn
   simp only [za]
   rcases List.mem_cons.1 h with h | h
   ·cases h
    rw [xX l _ hn.1]; exact zt _ _ _
   ·exact nP l _ hn.2 h
theorem lD (ob:Nat→Ob) (id:Nat):∀ (ids:List Nat) (f:Nat→Ob),(f id).o=(ob id).o→(za f (zo ob ids) id).o=(ob id).o
 | [],f,h=>h
 | i :: ids,f,h=>by
   simp only [zo,List.map_cons,za]
   refine lD ob id ids _ ?_
   by_cases hi:id=i
   ·subst hi; simp [zt]
   ·simpa [zI _ _ hi] using h
mutual
theorem lX (ob:Nat→Ob) (d:Nat):∀ (x:X) (j:Nat),∀ p ∈ (ofX ob d x j).2.1,p.2.ver=(ob p.1).ver+1
 | .d _,_,p,h=>by simp [ofX] at h
 | .nil,_,p,h=>by simp [ofX] at h
 | .own ..,j,p,h=>by simp only [ofX,List.mem_singleton] at h; subst h; rfl
 | .res ..,j,p,h=>by simp only [ofX,List.mem_singleton] at h; subst h; rfl
 | .par _,_,p,h=>by simp [ofX] at h
 | .box xs,j,p,h=>by
   simp only [ofX,List.mem_append,List.mem_singleton] at h
   rcases h with h | h
   ·exact kx ob d xs _ p h
   ·subst h; rfl
 | .agg xs,j,p,h=>kx ob d xs j p h
 | .tup xs,j,p,h=>kx ob d xs j p h
theorem kx (ob:Nat→Ob) (d:Nat):∀ (xs:List X) (j:Nat),∀ p ∈ (yP ob d xs j).2.1,p.2.ver=(ob p.1).ver+1
 | [],_,p,h=>by simp [yP] at h
 | x :: xs,j,p,h=>by
   simp only [yP,List.mem_append] at h
   rcases h with h | h
   ·exact lX ob d x j p h
   ·exact kx ob d xs _ p h
end
theorem qX:∀ {l:List Nat},zV l=true→l.Nodup
 | [],_=>List.nodup_nil
 | x :: r,h=>by
   simp only [zV,Bool.and_eq_true,Bool.not_eq_true',List.any_eq_false,beq_iff_eq] at h
   exact List.nodup_cons.2 ⟨fun hx=>h.1 x hx rfl,qX h.2⟩
theorem bP {S:Nat→Nat} {w:World}:∀ {xs:List D} {vs:List Value},RDl S w xs vs→RXs S w (xs.map .d) vs []
 | [],_,h=>⟨h,rfl⟩
 | x :: xs,_,⟨v,r,e,hx,hr⟩=>⟨v,r,[],[],e,rfl,⟨rfl,hx⟩,bP hr⟩
theorem UP:∀ (xs:List D),(xs.map X.d).all tq=true
 | []=>rfl
 | x :: xs=>by simp [tq,UP xs]
def oE (c:C) (id:Nat):Prop:=(∃ cells,(c.ob id).o= .box cells) ∨ ((c.ob id).leak=false∧∃ e sz n cap cells,(c.ob id).o= .row e sz n cap cells) ∨ ∃ k x,(c.ob id).o= .res k x
def yh (c:C) (id:Nat):Lent:=match (c.ob id).o with
 | .row e s _ _ _=> .row (c.hd id) e s
 | .res k _=> .res k (c.hd id)
 | _=> .box ((xl (c.hd id)).getD 0)
section
variable {c:C} {role:Nat→Option Nat} (hobs:∀ id,ObOK c role id)
include hobs
theorem mV {id:Nat} {cells:List A} (h:(c.ob id).o= .box cells):∃ b,c.hd id= .pointer (some ⟨b,0,none⟩)∧role b=some id:=by
 obtain ⟨b,cs,et,h1,_,_,_,_,h6⟩:=vO (hobs id) h
 exact ⟨b,h1,h6⟩
theorem nu {id:Nat} (h:oE c id):∀ b ∈ blk c id,role b=some id:=by
 intro b hb
 unfold blk xS at hb
 rcases h with ⟨cells,ho⟩ | ⟨hlk,e,sz,n,cap,cells,ho⟩ | ⟨k,x,ho⟩
 ·obtain ⟨b',h1,h2⟩:=mV hobs ho
  rw [ho,h1] at hb
  simp only [xl,Option.toList_some,List.mem_singleton] at hb
  subst hb; exact h2
 ·obtain ⟨xs,h1,h2,h3,h4⟩:=wO (hobs id) ho
  rw [ho] at hb
  simp only [xE h1,Option.mem_toList] at hb
  exact (h3 b hb).1
 ·obtain ⟨vs,h1,h2,h3⟩:=qu (hobs id) ho
  rw [ho] at hb
  exact (h3 b hb).1
theorem cO {id:Nat} (h:oE c id):(blk c id).Nodup:=by
 unfold blk xS
 rcases h with ⟨cells,ho⟩ | ⟨hlk,e,sz,n,cap,cells,ho⟩ | ⟨k,x,ho⟩
 ·rw [ho]; cases xl (c.hd id) <;> simp
 ·rw [ho]; cases xl (c.hd id) <;> simp
 ·obtain ⟨vs,h1,h2,h3⟩:=qu (hobs id) ho
  rw [ho]; exact h1.nodup
theorem ct:∀ {ids:List Nat},ids.Nodup→(∀ id ∈ ids,oE c id)→(ids.flatMap (blk c)).Nodup
 | [],_,_=>List.nodup_nil
 | id :: ids,hn,h=>by
   simp only [List.nodup_cons] at hn
   rw [List.flatMap_cons,List.nodup_append]
   refine ⟨cO hobs (h id (by simp)),ct hn.2 fun i hi=>h i (by simp [hi]),?_⟩
   rintro a ha b hb rfl
   obtain ⟨i,hi,hib⟩:=List.mem_flatMap.1 hb
   have q1:=nu hobs (h i (by simp [hi])) a hib
   have q2:=nu hobs (h id (by simp)) a ha
   rw [q1] at q2; injection q2 with q2; subst q2
   exact hn.1 hi
mutual
theorem Jy (m:Bool):∀ (a:A) (v:Value) (x:X) (ls ms:List Nat),toX m c.ob a=some (x,ls,ms)→R c a v→
  (∀ id ∈ ls,∃ e sz n cap cells,(c.ob id).o= .row e sz n cap cells)∧(∀ id ∈ ms,oE c id)∧rU x v=ms.map (yh c)∧
  ∀ S',Stab c.S c.w S' c.w→(∀ id ∈ ls,∀ e sz n cap cells,(c.ob id).o= .row e sz n cap cells→∀ b,(c.hd id).ownBlock=some b→S' b=n * sz)→
    (∀ id ∈ ms,∀ b ∈ blk c id,S' b=0)→RX S' c.w x v (ms.flatMap (blk c))
 | .d x,v,y,ls,ms,h,hr=>by
   simp only [toX,Option.some.injEq,Prod.mk.injEq] at h
   obtain ⟨rfl,rfl,rfl⟩:=h
   exact ⟨by simp,by simp,rfl,fun S' hS _ _=>⟨rfl,RD.mono hS _ _ hr⟩⟩
 | .nil,v,y,ls,ms,h,hr=>by
   simp only [toX,Option.some.injEq,Prod.mk.injEq] at h
   obtain ⟨rfl,rfl,rfl⟩:=h
   simp only [R] at hr; subst hr
   cases m with
   | true=>exact ⟨by simp,by simp,rfl,fun S' hS _ _=>⟨rfl,rfl⟩⟩
   | false=>exact ⟨by simp,by simp,rfl,fun S' hS _ _=>⟨rfl,none,0,rfl,Nat.le_refl _,fun _=>⟨rfl,rfl,rfl⟩,by simp⟩⟩
 | .row id ver,v,y,ls,ms,h,hr=>by
   simp only [toX] at h
   split at h
   ·rename_i e sz n cap cells ho
    split at h
    ·rename_i hv
     cases m with
     | false=>
       simp only [Bool.false_eq_true,if_false,Option.some.injEq,Prod.mk.injEq] at h
       obtain ⟨rfl,rfl,rfl⟩:=h
       have hsn:yT c.ob (.row id ver)=some (.lst n cells,[id]):=by simp only [yT,ho,hv,if_true]
       obtain ⟨p1,p2⟩:=Zg hobs hsn hr
       exact ⟨p1,by simp,rfl,fun S' hS hb _=>⟨rfl,p2 S' hS hb⟩⟩
     | true=>
       simp only [if_true] at h
       split at h
       ·rename_i hlk
        simp only [Option.some.injEq,Prod.mk.injEq] at h
        obtain ⟨rfl,rfl,rfl⟩:=h
        have hv':v=c.hd id:=hr.2.2 hv.symm (by rw [ho]; rfl)
        obtain ⟨xs,h1,h2,h3,h4⟩:=wO (hobs id) ho
        refine ⟨by simp,by simp only [List.mem_singleton,forall_eq]; exact .inr (.inl ⟨hlk,e,sz,n,cap,cells,ho⟩),?_,?_⟩
        ·simp only [rU,List.map_cons,List.map_nil,yh,ho,hv']
        ·intro S' hS _ hb
         refine ⟨xs,by rw [hv']; exact h1,RDl.mono hS _ _ h2,?_,?_,?_⟩
         ·rw [hv']; simp [blk,xS,ho,xE h1]
         ·intro b hbl
          rw [hv'] at hbl
          simp only [Bool.false_eq_true,if_false]
          exact hb id (by simp) b (by simp [blk,xS,ho,xE h1,hbl])
         ·intro k hk; cases hk
       ·cases h
    ·cases h
   ·rename_i k x ho
    split at h
    ·rename_i hv
     simp only [Option.some.injEq,Prod.mk.injEq] at h
     obtain ⟨rfl,rfl,rfl⟩:=h
     have hv':v=c.hd id:=hr.2.2 hv.symm (by rw [ho]; rfl)
     obtain ⟨vs,h1,h2,h3⟩:=qu (hobs id) ho
     refine ⟨by simp,by simp only [List.mem_singleton,forall_eq]; exact .inr (.inr ⟨k,x,ho⟩),?_,?_⟩
     ·simp only [rU,List.map_cons,List.map_nil,yh,ho,hv']
     ·intro S' hS _ hb
      refine ⟨vs,by rw [hv']; exact h1,RDl.mono hS _ _ h2,by rw [hv']; simp [blk,xS,ho],?_⟩
      intro b hbl
      simp only [List.flatMap_cons,List.flatMap_nil,List.append_nil] at hbl
      exact hb id (by simp) b hbl
    ·cases h
   ·cases h
 | .adr id ver off,v,y,ls,ms,h,hr=>by
   simp only [toX] at h
   split at h
   ·rename_i cells ho
    split at h
    ·rename_i hv
     obtain ⟨xs,hxs,e⟩:=map_some h
     simp only [Prod.mk.injEq] at e
     obtain ⟨rfl,rfl,rfl⟩:=e
     obtain ⟨b,cs,et,h1,h2,h3,h4,h5,h6⟩:=vO (hobs id) ho
     obtain ⟨b',e7,e8⟩:=hr.2.2 hv.1.symm (by rw [ho]; rfl)
     rw [h1] at e7
     obtain rfl:b=b':=by injection e7 with e7; injection e7 with e7; injection e7
     refine ⟨by simp,by simp only [List.mem_singleton,forall_eq]; exact .inl ⟨cells,ho⟩,?_,?_⟩
     ·simp only [rU,e8,List.map_cons,List.map_nil,yh,ho,h1,xl,Option.getD_some]
     ·intro S' hS _ hb
      have hR:RDl S' c.w xs cs.toList:=RDl.mono hS _ _ (by
       have:∀ (cells:List A) (xs:List D) (vs:List Value),wb cells=some xs→Rl c cells vs→RDl c.S c.w xs vs:=by
        intro cells
        induction cells with
        | nil=>intro xs vs h hr; simp only [wb,Option.some.injEq] at h; subst h; exact hr
        | cons a cells ih=>
          rintro xs vs h ⟨v,r,e,hv,hr⟩
          cases a <;> simp only [wb,Option.map_eq_some_iff,reduceCtorEq] at h
          obtain ⟨ys,hy,rfl⟩:=h
          exact ⟨v,r,e,hv,ih ys r hy hr⟩
       exact this cells xs _ hxs h3)
      refine ⟨b,cs,et,[],?_,h2,bP hR,?_,hb id (by simp) b (by simp [blk,xS,ho,h1,xl]),UP xs⟩
      ·rw [e8,hv.2]
      ·simp [blk,xS,ho,h1,xl]
    ·cases h
   ·cases h
 | .agg as,v,y,ls,ms,h,hr=>by
   simp only [toX] at h
   obtain ⟨⟨xs,l,k⟩,hxs,e⟩:=map_some h
   simp only [Prod.mk.injEq] at e
   obtain ⟨rfl,rfl,rfl⟩:=e
   obtain ⟨vs,e1,H⟩:=hr
   obtain ⟨p1,p2,p4,p3⟩:=an m as vs.toList xs l k hxs H
   exact ⟨p1,p2,by rw [e1]; exact p4,fun S' a b c'=>⟨vs,e1,p3 S' a b c'⟩⟩
 | .undef,_,_,_,_,h,_=>by simp [toX] at h
 | .rad ..,_,_,_,_,h,_=>by simp [toX] at h
 | .vw ..,_,_,_,_,h,_=>by simp [toX] at h
 | .cp _,_,_,_,_,h,_=>by simp [toX] at h
 | .tup _,_,_,_,_,h,_=>by simp [toX] at h
theorem an (m:Bool):∀ (as:List A) (vs:List Value) (xs:List X) (ls ms:List Nat),vc m c.ob as=some (xs,ls,ms)→Rl c as vs→
  (∀ id ∈ ls,∃ e sz n cap cells,(c.ob id).o= .row e sz n cap cells)∧(∀ id ∈ ms,oE c id)∧yW xs vs=ms.map (yh c)∧
  ∀ S',Stab c.S c.w S' c.w→(∀ id ∈ ls,∀ e sz n cap cells,(c.ob id).o= .row e sz n cap cells→∀ b,(c.hd id).ownBlock=some b→S' b=n * sz)→
    (∀ id ∈ ms,∀ b ∈ blk c id,S' b=0)→RXs S' c.w xs vs (ms.flatMap (blk c))
 | [],vs,xs,ls,ms,h,hr=>by
   simp only [vc,Option.some.injEq,Prod.mk.injEq] at h
   obtain ⟨rfl,rfl,rfl⟩:=h
   exact ⟨by simp,by simp,by simp only [yW,List.map_nil],fun S' _ _ _=>⟨hr,rfl⟩⟩
 | a :: as,vs,xs,ls,ms,h,⟨v,r,e,hv,hr⟩=>by
   simp only [vc] at h
   obtain ⟨⟨x,l,k⟩,hx,h⟩:=bind_some h
   obtain ⟨⟨ys,l',k'⟩,hys,e'⟩:=map_some h
   simp only [Prod.mk.injEq] at e'
   obtain ⟨rfl,rfl,rfl⟩:=e'
   obtain ⟨p1,p2,p4,p3⟩:=Jy m a v x l k hx hv
   obtain ⟨q1,q2,q4,q3⟩:=an m as r ys l' k' hys hr
   refine ⟨?_,?_,?_,?_⟩
   ·intro id hid; rcases List.mem_append.1 hid with h | h
    ·exact p1 id h
    ·exact q1 id h
   ·intro id hid; rcases List.mem_append.1 hid with h | h
    ·exact p2 id h
    ·exact q2 id h
   ·subst e
    simp only [yW,List.map_append,p4,q4]
   ·intro S' h1 h2 h3
    refine ⟨v,r,_,_,e,List.flatMap_append ..,p3 S' h1 (fun id hid=>h2 id (List.mem_append.2 (.inl hid))) (fun id hid=>h3 id (List.mem_append.2 (.inl hid))),
     q3 S' h1 (fun id hid=>h2 id (List.mem_append.2 (.inr hid))) (fun id hid=>h3 id (List.mem_append.2 (.inr hid)))⟩
end
end
end Go.Vm
