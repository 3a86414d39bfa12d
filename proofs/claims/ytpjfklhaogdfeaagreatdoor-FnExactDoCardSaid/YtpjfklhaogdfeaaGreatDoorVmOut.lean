/- What comes out of a call. -/
import Derived.Test.YtpjfklhaogdfeaaGreatDoorVmFn
set_option linter.unusedVariables false
set_option linter.unusedSectionVars false
set_option linter.unusedSimpArgs false
namespace Go.Vm
variable [Gl]
def k8 (tmps:Array Value):ResultVar→Sem Value
 | .tmp t=>pure (tmps.getD t undef)
 | .cell a t=>do loadVar t (← asAddr (tmps.getD a undef))
def kL:List Value→Value
 | [v]=>v
 | vs=> .tuple vs.toArray
theorem Xo (fn:Func) (tmps:Array Value):Go.results fn tmps=(do
  let vs ← fn.results.mapM (k8 tmps)
  pure (if h:vs.size=1 then vs[0] else .tuple vs)):=by
 unfold Go.results
 congr 1
def Y9 (P:Program) (w:World) (tmps:Array Value):List ResultVar→List Value→Prop
 | [],vs=>vs=[]
 | r :: rs,vs=>∃ v us,vs=v :: us∧(k8 tmps r).run P w= .ok v w∧Y9 P w tmps rs us
theorem jK {P:Program} {fn:Func} {l:List ResultVar} {vs:List Value} {tmps:Array Value} {w:World} (h:fn.results=l.toArray) (h4:l.length ≤ 4) (hl:Y9 P w tmps l vs):
  (Go.results fn tmps).run P w= .ok (kL vs) w:=by
 rw [Xo,h]
 match l,h4,hl with
 | [],_,hl=>cases hl; simp [kL]
 | [a],_,hl=>obtain ⟨v,_,rfl,h1,rfl⟩:=hl; simp [kL,h1]
 | [a,b],_,hl=>obtain ⟨v,_,rfl,h1,v2,_,rfl,h2,rfl⟩:=hl; simp [kL,h1,h2]
 | [a,b,d],_,hl=>obtain ⟨v,_,rfl,h1,v2,_,rfl,h2,v3,_,rfl,h3,rfl⟩:=hl; simp [kL,h1,h2,h3]
 | [a,b,d,e],_,hl=>obtain ⟨v,_,rfl,h1,v2,_,rfl,h2,v3,_,rfl,h3,v4,_,rfl,h5,rfl⟩:=hl; simp [kL,h1,h2,h3,h5]
 | _ :: _ :: _ :: _ :: _ :: _,h,_=>simp at h
theorem b9 {P:Program} {c:C} {role:Nat→Option Nat} (hobs:∀ id,ObOK c role id) {st:St} {act:Act} (hob:c.ob=st.ob) (hs:∀ n,R c (st.slot n) (act.tmps.getD n undef)):
  ∀ {l:List ResultVar} {rs:List RV} {as:List A},vG P l=some rs→ra st rs=some as→∃ vs,Rl c as vs∧Y9 P c.w act.tmps l vs
 | [],rs,as,h,hg=>by
   cases h
   simp only [ra,Option.some.injEq] at hg
   subst hg
   exact ⟨[],rfl,rfl⟩
 | r :: l,rs,as,h,hg=>by
   obtain ⟨r',h1,h⟩:=bind_some h
   obtain ⟨rs',h2,h⟩:=map_some h
   subst h
   obtain ⟨a,g1,hg⟩:=bind_some (show (r'.get st).bind (fun a=>(ra st rs').map (a :: ·))=some as from hg)
   obtain ⟨as',g2,hg⟩:=map_some hg
   subst hg
   obtain ⟨vs,i1,i2⟩:=b9 hobs hob hs h2 g2
   have one:∃ v,R c a v∧(k8 act.tmps r).run P c.w= .ok v c.w:=by
    cases r with
    | tmp t=>
      cases h1
      simp only [RV.get,Option.some.injEq] at g1
      subst g1
      exact ⟨_,hs t,rfl⟩
    | cell t ty=>
      obtain ⟨n,hn,h1⟩:=map_some h1
      subst h1
      simp only [RV.get] at g1
      split at g1
      ·rename_i id ver hslot
       have hr:=hs t
       rw [hslot] at hr
       obtain ⟨cells,hb,g1⟩:=bind_some g1
       obtain ⟨k1,k2⟩:=m5 hb
       rw [← hob] at k1 k2
       obtain ⟨b,cs,et,q1,q2,q3,_⟩:=wQ (hobs id) k1
       obtain ⟨b',r1,r2⟩:=hr.2.2 k2.symm (by rw [k1]; rfl)
       rw [q1] at r1
       obtain rfl:b=b':=by injection r1 with r1; injection r1 with r1; injection r1
       cases n with
       | none=>
         obtain ⟨v,hv,hrv⟩:=q3.get 0 a g1
         refine ⟨v,hrv,?_⟩
         simp only [k8,r2,asAddr,Sem.run_bind,Sem.run_pure,Result.andThen_ok]
         exact nW hn _ _ _ (by rw [ov q2]; simpa using hv)
       | some n=>
         simp only at g1
         split at g1
         ·rename_i hlen
          simp only [Option.some.injEq] at g1
          subst g1
          have hlc:=q3.length
          refine ⟨.agg (cs.toList.take n).toArray,⟨_,rfl,by simpa using Rl.take n q3⟩,?_⟩
          simp only [k8,r2,asAddr,Sem.run_bind,Sem.run_pure,Result.andThen_ok]
          refine nt hn _ b 0 (cs.toList.take n) (by simp at hlc ⊢; omega) ?_
          intro j v hj
          rw [ov q2,Nat.zero_add]
          rw [List.getElem?_take] at hj
          split at hj
          ·simpa using hj
          ·cases hj
         ·cases g1
      ·cases g1
   obtain ⟨v,v1,v2⟩:=one
   exact ⟨v :: vs,⟨v,vs,rfl,v1,i1⟩,v,vs,rfl,v2,i2⟩
theorem eQ:∀ {ps:List Nat} {i k:Nat},r9 ps i=some k→ps[k]? =some i
 | [],i,k,h=>by cases h
 | p :: ps,i,k,h=>by
   simp only [r9] at h
   split at h
   ·rename_i e
    cases h; subst e; rfl
   ·obtain ⟨j,h1,rfl⟩:=map_some h
    rw [List.getElem?_cons_succ]
    exact eQ h1
section
variable {c:C} {role:Nat→Option Nat} (hobs:∀ id,ObOK c role id) {ob:Nat→Ob} {ps:List Nat} (hps:∀ id ∈ ps,c.ob id=ob id)
include hobs hps
mutual
theorem VR:∀ (a:A) (v:Value) (x:X) (ids:List Nat),vB ps ob a=some (x,ids)→R c a v→(∀ id ∈ ids,c.ob id=ob id)→
  RX c.S c.w x v (ids.flatMap (blk c))∧((∀ id ∈ ids,∀ b ∈ blk c id,role b=some id)∧∀ id ∈ ids,(blk c id).Nodup)∧ParOK (ps.map (zO c)) x v
 | .d x,v,y,ids,h,hr,_=>by
   simp only [vB,Option.some.injEq,Prod.mk.injEq] at h
   obtain ⟨rfl,rfl⟩:=h
   exact ⟨⟨rfl,hr⟩,⟨by simp,by simp⟩,by simp only [ParOK]⟩
 | .nil,v,y,ids,h,hr,_=>by
   simp only [vB,Option.some.injEq,Prod.mk.injEq] at h
   obtain ⟨rfl,rfl⟩:=h
   exact ⟨⟨rfl,hr⟩,⟨by simp,by simp⟩,by simp only [ParOK]⟩
 | .row id ver,v,y,ids,h,hr,he=>by
   simp only [vB] at h
   split at h
   ·rename_i e s n k cells ho
    split at h
    ·rename_i hv
     cases hpo:r9 ps id with
     | some k=>
       rw [hpo] at h
       simp only [Option.some.injEq,Prod.mk.injEq] at h
       obtain ⟨rfl,rfl⟩:=h
       have hg:=eQ hpo
       have e1:=hps id (List.mem_of_getElem? hg)
       have ho':=(congrArg Ob.o e1).trans ho
       have hv':v=c.hd id:=hr.2.2 (by rw [e1]; exact hv.symm) (by rw [ho']; rfl)
       refine ⟨rfl,⟨by simp,by simp⟩,?_⟩
       simp only [ParOK]
       refine ⟨e,s,?_⟩
       rw [List.getElem?_map,hg,hv']
       simp only [Option.map_some,zO,ho']
     | none=>
     rw [hpo] at h
     simp only [Option.some.injEq,Prod.mk.injEq] at h
     obtain ⟨rfl,rfl⟩:=h
     have e1:=he id (by simp)
     have ho':(c.ob id).o= .row e s n k cells:=by rw [e1]; exact ho
     have hv':v=c.hd id:=hr.2.2 (by rw [e1]; exact hv.symm) (by rw [ho']; rfl)
     obtain ⟨xs,h1,h2,h3,h4⟩:=x9 (hobs id) ho'
     have hbl:=xe h1
     have hb1:blk c id=(c.hd id).ownBlock.toList:=by simp [blk,xu,ho',hbl]
     refine ⟨⟨xs,by rw [hv']; exact h1,h2,?_,?_,?_⟩,⟨?_,?_⟩,by simp only [ParOK]⟩
     ·rw [hv']; simp [hb1]
     ·intro b hb
      rw [hv'] at hb
      rw [← e1]; exact (h3 b hb).2
     ·intro k' hk; rw [hv']; exact h4 k' hk
     ·intro j hj b hb
      simp only [List.mem_singleton] at hj
      subst hj
      rw [hb1,Option.mem_toList] at hb
      exact (h3 b hb).1
     ·intro j hj
      simp only [List.mem_singleton] at hj
      subst hj
      rw [hb1]; cases (c.hd j).ownBlock <;> simp
    ·cases h
   ·rename_i k x ho
    split at h
    ·rename_i hv
     cases hpo:r9 ps id with
     | some k=>rw [hpo] at h; cases h
     | none=>
       rw [hpo] at h
       simp only [Option.some.injEq,Prod.mk.injEq] at h
       obtain ⟨rfl,rfl⟩:=h
       have e1:=he id (by simp)
       have ho':(c.ob id).o= .res k x:=by rw [e1]; exact ho
       have hv':v=c.hd id:=hr.2.2 (by rw [e1]; exact hv.symm) (by rw [ho']; rfl)
       obtain ⟨vs,h1,h2,h3⟩:=sX (hobs id) ho'
       have hb1:blk c id=k.foot c.w (c.hd id):=by simp [blk,xu,ho']
       refine ⟨⟨vs,by rw [hv']; exact h1,h2,by rw [hv']; simp [hb1],?_⟩,⟨?_,?_⟩,by simp only [ParOK]⟩
       ·intro b hb
        simp only [List.flatMap_cons,List.flatMap_nil,List.append_nil,hb1] at hb
        exact (h3 b hb).2
       ·intro j hj b hb
        simp only [List.mem_singleton] at hj
        subst hj
        rw [hb1] at hb
        exact (h3 b hb).1
       ·intro j hj
        simp only [List.mem_singleton] at hj
        subst hj
        rw [hb1]; exact h1.nodup
    ·cases h
   ·cases h
 | .agg as,v,y,ids,h,hr,he=>by
   simp only [vB] at h
   obtain ⟨⟨xs,l⟩,hxs,e⟩:=map_some h
   simp only [Prod.mk.injEq] at e
   obtain ⟨rfl,rfl⟩:=e
   obtain ⟨vs,e1,H⟩:=hr
   obtain ⟨p1,p2,p3⟩:=mn as vs.toList xs l hxs H he
   refine ⟨⟨vs,e1,p1⟩,p2,?_⟩
   simp only [ParOK]
   intro vs' e'; rw [e1] at e'; cases e'; exact p3
 | .tup as,v,y,ids,h,hr,he=>by
   simp only [vB] at h
   obtain ⟨⟨xs,l⟩,hxs,e⟩:=map_some h
   simp only [Prod.mk.injEq] at e
   obtain ⟨rfl,rfl⟩:=e
   obtain ⟨vs,e1,H⟩:=hr
   obtain ⟨p1,p2,p3⟩:=mn as vs.toList xs l hxs H he
   refine ⟨⟨vs,e1,p1⟩,p2,?_⟩
   simp only [ParOK]
   intro vs' e'; rw [e1] at e'; cases e'; exact p3
 | .undef,_,_,_,h,_,_=>by simp [vB] at h
 | .adr ..,_,_,_,h,_,_=>by simp [vB] at h
 | .rad ..,_,_,_,h,_,_=>by simp [vB] at h
 | .vw ..,_,_,_,h,_,_=>by simp [vB] at h
 | .cp _,_,_,_,h,_,_=>by simp [vB] at h
theorem mn:∀ (as:List A) (vs:List Value) (xs:List X) (ids:List Nat),xL ps ob as=some (xs,ids)→Rl c as vs→(∀ id ∈ ids,c.ob id=ob id)→
  RXs c.S c.w xs vs (ids.flatMap (blk c))∧((∀ id ∈ ids,∀ b ∈ blk c id,role b=some id)∧∀ id ∈ ids,(blk c id).Nodup)∧ParOKs (ps.map (zO c)) xs vs
 | [],vs,xs,ids,h,hr,_=>by
   simp only [xL,Option.some.injEq,Prod.mk.injEq] at h
   obtain ⟨rfl,rfl⟩:=h
   exact ⟨⟨hr,rfl⟩,⟨by simp,by simp⟩,by simp only [ParOKs]⟩
 | a :: as,vs,xs,ids,h,⟨v,r,e,hv,hr⟩,he=>by
   simp only [xL] at h
   obtain ⟨⟨x,l⟩,hx,h⟩:=bind_some h
   obtain ⟨⟨ys,l'⟩,hys,e'⟩:=map_some h
   simp only [Prod.mk.injEq] at e'
   obtain ⟨rfl,rfl⟩:=e'
   obtain ⟨p1,p2,p3⟩:=VR a v x l hx hv fun id hid=>he id (List.mem_append.2 (.inl hid))
   obtain ⟨q1,q2,q3⟩:=mn as r ys l' hys hr fun id hid=>he id (List.mem_append.2 (.inr hid))
   refine ⟨⟨v,r,_,_,e,by rw [List.flatMap_append],p1,q1⟩,⟨?_,?_⟩,by subst e; simp only [ParOKs]; exact ⟨p3,q3⟩⟩
   ·intro id hid
    rcases List.mem_append.1 hid with h | h
    ·exact p2.1 id h
    ·exact q2.1 id h
   ·intro id hid
    rcases List.mem_append.1 hid with h | h
    ·exact p2.2 id h
    ·exact q2.2 id h
end
theorem SV {a:A} {v:Value} {x:X} {ids:List Nat} (h:qQ ps ob a=some (x,ids)) (hr:R c a v) (he:∀ id ∈ ids,c.ob id=ob id):
  RX c.S c.w x v (ids.flatMap (blk c))∧((∀ id ∈ ids,∀ b ∈ blk c id,role b=some id)∧∀ id ∈ ids,(blk c id).Nodup)∧ParOK (ps.map (zO c)) x v:=by
 unfold qQ at h
 split at h
 ·rename_i id ver off
  split at h
  ·rename_i cells ho
   split at h
   ·rename_i hv
    obtain ⟨⟨xs,l⟩,hxs,h⟩:=bind_some h
    simp only at h
    split at h
    ·rename_i hflat
     simp only [Option.some.injEq,Prod.mk.injEq] at h
     obtain ⟨rfl,rfl⟩:=h
     have e1:=he id (by simp)
     have ho':(c.ob id).o= .box cells:=by rw [e1]; exact ho
     obtain ⟨b,cs,et,q1,q2,q3,q4,q5,q6⟩:=wQ (hobs id) ho'
     obtain ⟨b',r1,r2⟩:=hr.2.2 (by rw [e1]; exact hv.1.symm) (by rw [ho']; rfl)
     rw [q1] at r1
     obtain rfl:b=b':=by injection r1 with r1; injection r1 with r1; injection r1
     obtain ⟨p1,p2,_⟩:=mn hobs hps cells cs.toList xs l hxs q3 fun j hj=>he j (by simp [hj])
     have hb1:blk c id=[b]:=by simp [blk,xu,ho',q1,yS]
     refine ⟨⟨b,cs,et,_,by rw [r2,hv.2],q2,p1,?_,q5,hflat⟩,⟨?_,?_⟩,by simp only [ParOK]⟩
     ·rw [List.flatMap_append]; simp [hb1]
     ·intro j hj
      rcases List.mem_append.1 hj with hj | hj
      ·exact p2.1 j hj
      ·simp only [List.mem_singleton] at hj
       subst hj
       intro b2 hb2
       rw [hb1,List.mem_singleton] at hb2
       subst hb2
       exact q6
     ·intro j hj
      rcases List.mem_append.1 hj with hj | hj
      ·exact p2.2 j hj
      ·simp only [List.mem_singleton] at hj
       subst hj
       rw [hb1]; simp
    ·cases h
   ·cases h
  ·cases h
 ·exact VR hobs hps a v x ids h hr he
end
theorem kO {c:C} {role:Nat→Option Nat}:∀ {ids:List Nat},ids.Nodup→((∀ id ∈ ids,∀ b ∈ blk c id,role b=some id)∧∀ id ∈ ids,(blk c id).Nodup)→
  (ids.flatMap (blk c)).Nodup
 | [],_,_=>List.nodup_nil
 | id :: ids,hn,h=>by
   simp only [List.nodup_cons] at hn
   have ih:=kO hn.2 ⟨fun j hj=>h.1 j (by simp [hj]),fun j hj=>h.2 j (by simp [hj])⟩
   rw [List.flatMap_cons,List.nodup_append]
   refine ⟨h.2 id (by simp),ih,?_⟩
   rintro a ha b hb rfl
   obtain ⟨j,hj,hjb⟩:=List.mem_flatMap.1 hb
   have h1:=h.1 id (by simp) a ha
   have h2:=h.1 j (by simp [hj]) a hjb
   rw [h1] at h2; injection h2 with h2; subst h2
   exact hn.1 hj
theorem XO {c:C} {role:Nat→Option Nat} (hobs:∀ id,ObOK c role id) {ob:Nat→Ob} {ps:List Nat} (hps:∀ id ∈ ps,c.ob id=ob id) {as:List A} {vs:List Value} (hl:Rl c as vs) {x:X} {ids:List Nat}
  (h:mL ps ob as=some (x,ids)) (he:∀ id ∈ ids,c.ob id=ob id):
  RX c.S c.w x (kL vs) (ids.flatMap (blk c))∧((∀ id ∈ ids,∀ b ∈ blk c id,role b=some id)∧∀ id ∈ ids,(blk c id).Nodup)∧ParOK (ps.map (zO c)) x (kL vs):=by
 have many:(xL ps ob as).map (fun x=>(X.tup x.1,x.2))=some (x,ids)→
   RX c.S c.w x (.tuple vs.toArray) (ids.flatMap (blk c))∧((∀ id ∈ ids,∀ b ∈ blk c id,role b=some id)∧∀ id ∈ ids,(blk c id).Nodup)∧ParOK (ps.map (zO c)) x (.tuple vs.toArray):=by
  intro h
  obtain ⟨⟨xs,l⟩,hxs,e⟩:=map_some h
  simp only [Prod.mk.injEq] at e
  obtain ⟨rfl,rfl⟩:=e
  obtain ⟨p1,p2,p3⟩:=mn hobs hps _ _ xs l hxs hl he
  refine ⟨⟨_,rfl,by simpa using p1⟩,p2,?_⟩
  simp only [ParOK]
  intro vs' e'; cases e'; simpa using p3
 match as,hl,h with
 | [a],hl,h=>obtain ⟨v,_,rfl,hv,rfl⟩:=hl; exact SV hobs hps h hv he
 | [],hl,h=>cases hl; exact many h
 | a :: b :: as,hl,h=>obtain ⟨v,_,rfl,hv,v2,r,rfl,hv2,hr⟩:=hl; exact many h
def Mkd (c:C):List Nat→List (List D)→Prop
 | [],outs=>outs=[]
 | p :: ps,outs=>∃ ds r,outs=ds :: r∧((c.ob p).ver=1 ∨ (∃ n cells,ds=[.lst n cells,.bool true])∧∃ e sz n cap cells,(c.ob p).o= .row e sz n cap cells)∧Mkd c ps r
theorem ek {c:C} {role:Nat→Option Nat} (hobs:∀ id,ObOK c role id):∀ {ps:List Nat} {outs:List (List D)} {ids:List Nat},vE c.ob ps=some (outs,ids)→
  (∀ id ∈ ids,∃ e sz n cap cells,(c.ob id).o= .row e sz n cap cells)∧((∀ p ∈ ps,qM c p)∧Mkd c ps outs)∧
  ∀ S',Stab c.S c.w S' c.w→(∀ id ∈ ids,∀ e sz n cap cells,(c.ob id).o= .row e sz n cap cells→∀ b,(c.hd id).ownBlock=some b→S' b=n * sz)→
    (∀ id ∈ ps,∀ b ∈ blk c id,S' b=0)→qg S' c.w outs (ps.map (zO c))
 | [],outs,ids,h=>by
   simp only [vE,Option.some.injEq,Prod.mk.injEq] at h
   obtain ⟨rfl,rfl⟩:=h
   exact ⟨by simp,⟨by simp,rfl⟩,fun S' _ _ _=>rfl⟩
 | p :: ps,outs,ids,h=>by
   simp only [vE] at h
   obtain ⟨⟨xs,l⟩,hx,h⟩:=bind_some h
   obtain ⟨⟨ys,l'⟩,hys,e⟩:=map_some h
   simp only [Prod.mk.injEq] at e
   obtain ⟨rfl,rfl⟩:=e
   obtain ⟨r1,⟨r3,r4⟩,r2⟩:=ek hobs hys
   unfold pC at hx
   split at hx
   ·rename_i cells ho
    split at hx
    ·rename_i hv
     obtain ⟨b,cs,et,q1,q2,q3,q4,q5,q6⟩:=wQ (hobs p) ho
     obtain ⟨p1,p2⟩:=cg hobs hx q3
     refine ⟨?_,?_,?_⟩
     ·intro id hid
      rcases List.mem_append.1 hid with h | h
      ·exact p1 id h
      ·exact r1 id h
     ·refine ⟨fun j hj=>?_,_,_,rfl,.inl hv,r4⟩
      rcases List.mem_cons.1 hj with rfl | hj
      ·exact .inl ⟨cells,ho⟩
      ·exact r3 j hj
     ·intro S' hS hb hz
      refine ⟨_,_,rfl,?_,r2 S' hS (fun id hid=>hb id (List.mem_append.2 (.inr hid))) (fun id hid=>hz id (by simp [hid]))⟩
      simp only [zO,ho,q1,yS,Option.getD_some,Y6]
      exact ⟨cs,et,q2,p2 S' hS fun id hid=>hb id (List.mem_append.2 (.inl hid)),hz p (by simp) b (by simp [blk,xu,ho,q1,yS])⟩
    ·cases hx
   ·rename_i e sz n cap cells ho
    split at hx
    ·rename_i hlk
     obtain ⟨vs,q1,q2,q3,q4⟩:=x9 (hobs p) ho
     have hl:l=[]∧(xs=[.lst n cells]∧(c.ob p).ver=1 ∨ xs=[.lst n cells,.bool true]):=by
      split at hx
      ·rename_i hv
       simp only [Option.some.injEq,Prod.mk.injEq] at hx
       exact ⟨hx.2.symm,.inl ⟨hx.1.symm,hv⟩⟩
      ·simp only [Option.some.injEq,Prod.mk.injEq] at hx
       exact ⟨hx.2.symm,.inr hx.1.symm⟩
     obtain ⟨rfl,hl⟩:=hl
     refine ⟨?_,?_,?_⟩
     ·intro id hid
      exact r1 id (by simpa using hid)
     ·refine ⟨fun j hj=>?_,_,_,rfl,?_,r4⟩
      ·rcases List.mem_cons.1 hj with rfl | hj
       ·exact .inr (.inl ⟨hlk,e,sz,n,cap,cells,ho⟩)
       ·exact r3 j hj
      ·rcases hl with ⟨_,hv⟩ | hx
       ·exact .inl hv
       ·exact .inr ⟨⟨n,cells,hx⟩,e,sz,n,cap,cells,ho⟩
     ·intro S' hS hb hz
      refine ⟨_,_,rfl,?_,r2 S' hS (fun id hid=>hb id (by simpa using hid)) (fun id hid=>hz id (by simp [hid]))⟩
      simp only [zO,ho,Y6]
      exact ⟨n,cells,vs,hl.imp (·.1) id,q1,RDl.mono hS _ _ q2,fun b hb'=>hz p (by simp) b (by simp [blk,xu,ho,xe q1,hb'])⟩
    ·cases hx
   ·rename_i k y ho
    split at hx
    ·rename_i hv
     simp only [Option.some.injEq,Prod.mk.injEq] at hx
     obtain ⟨rfl,rfl⟩:=hx
     obtain ⟨vs,q1,q2,q3⟩:=sX (hobs p) ho
     refine ⟨?_,?_,?_⟩
     ·intro id hid
      exact r1 id (by simpa using hid)
     ·refine ⟨fun j hj=>?_,_,_,rfl,.inl hv,r4⟩
      rcases List.mem_cons.1 hj with rfl | hj
      ·exact .inr (.inr ⟨k,y,ho⟩)
      ·exact r3 j hj
     ·intro S' hS hb hz
      refine ⟨_,_,rfl,?_,r2 S' hS (fun id hid=>hb id (by simpa using hid)) (fun id hid=>hz id (by simp [hid]))⟩
      simp only [zO,ho,Y6]
      exact ⟨y,vs,rfl,q1,RDl.mono hS _ _ q2,fun b hb'=>hz p (by simp) b (by simp only [blk,xu,ho]; exact hb')⟩
    ·cases hx
   ·cases hx
theorem fP {ob:Nat→Ob} {ps:List Nat} {y:List (List D)×List Nat} (h:ww ob ps=some y):vE ob ps=some y∧∀ id ∈ ps,id ∉ y.2:=by
 unfold ww at h
 obtain ⟨y',h1,h⟩:=bind_some h
 split at h
 ·cases h
 ·rename_i hn
  cases h
  refine ⟨h1,?_⟩
  intro id hid hm
  apply hn
  exact List.any_eq_true.2 ⟨id,hm,List.any_eq_true.2 ⟨id,hid,by simp⟩⟩
def Vu (o:O):KO→Prop
 | .box=>∃ cells,o= .box cells
 | .row e s=>∃ n c cells,o= .row e s n c cells
 | .res k=>∃ x,o= .res k x
theorem u3:∀ {l:List (Nat×Ob)} {id:Nat} {x:Ob} {k:KO},(id,x) ∈ l→Vu x.o k→(id,k) ∈ xG l
 | (i,y) :: l,id,x,k,h,ho=>by
   rcases List.mem_cons.1 h with h | h
   ·cases h
    cases k with
    | row e s=>obtain ⟨n,c,cells,ho⟩:=ho; simp only [xG,ho,List.mem_cons,true_or]
    | res k=>obtain ⟨z,ho⟩:=ho; simp only [xG,ho,List.mem_cons,true_or]
    | box=>obtain ⟨z,ho⟩:=ho; simp only [xG,ho,List.mem_cons,true_or]
   ·have ih:=u3 h ho
    simp only [xG]
    split
    ·exact List.mem_cons_of_mem _ ih
    ·exact List.mem_cons_of_mem _ ih
    ·exact List.mem_cons_of_mem _ ih
    ·exact ih
theorem uk {ob:Nat→Ob}:∀ {l:List (Nat×KO)} {id:Nat} {k:KO},uO ob l=true→(id,k) ∈ l→Vu (ob id).o k
 | (i,k') :: l,id,k,h,hm=>by
   simp only [uO,Bool.and_eq_true] at h
   rcases List.mem_cons.1 hm with hm | hm
   ·cases hm
    have h1:=h.1
    unfold pK at h1
    split at h1
    ·split at h1
     ·rename_i cells ho
      exact ⟨cells,ho⟩
     ·cases h1
    ·split at h1
     ·rename_i e' s' n c cells ho
      simp only [Bool.and_eq_true,beq_iff_eq] at h1
      obtain ⟨rfl,rfl⟩:=h1
      exact ⟨n,c,cells,ho⟩
     ·cases h1
    ·split at h1
     ·rename_i k2 x ho
      have:=of_decide_eq_true h1
      subst this
      exact ⟨x,ho⟩
     ·cases h1
   ·exact uk h.2 hm
end Go.Vm
