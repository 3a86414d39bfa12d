/- A call does what the abstract machine says: the whole. -/
import Derived.Test.YtpjfklhaogdfeaaGreatDoorVmCall2
set_option linter.unusedVariables false
set_option linter.unusedSectionVars false
set_option linter.unusedSimpArgs false
namespace Go.Vm
variable [Gl]
def bu (c:C) (role:Nat→Option Nat) (out:Out) (e:Ending) (w':World):Prop:=
 ∃ S' hd' role',match out with
   | .val a us=>∃ v,e= .returned v∧Ext c ⟨S',w',hd',za c.ob us⟩ role role'∧R ⟨S',w',hd',za c.ob us⟩ a v
   | .pan x us=>∃ v,e= .panicked [{ v,recovered:=false }]∧Ext c ⟨S',w',hd',za c.ob us⟩ role role'∧RD S' w' x v
def qT (hd:Nat→Value):List Imp→Nat→Value
 | [],id=>hd id
 | i :: is,id=>if i.id=id then i.v else qT hd is id
def xJ (role:Nat→Option Nat):List (Nat×List Nat)→Nat→Option Nat
 | [],b=>role b
 | p :: ps,b=>if b ∈ p.2 then some p.1 else xJ role ps b
def prs (is:List Imp):List (Nat×List Nat):=is.map fun i=>(i.id,i.bs)
theorem sW {hd:Nat→Value}:∀ {is:List Imp} {id:Nat},id ∉ is.map (·.id)→qT hd is id=hd id
 | [],_,_=>rfl
 | i :: is,id,h=>by
   simp only [List.map_cons,List.mem_cons,not_or] at h
   simp only [qT]; rw [if_neg (fun e=>h.1 e.symm)]; exact sW h.2
theorem qt {hd:Nat→Value}:∀ {is:List Imp} {i:Imp},(is.map (·.id)).Nodup→i ∈ is→qT hd is i.id=i.v
 | j :: is,i,hn,h=>by
   simp only [List.map_cons,List.nodup_cons] at hn
   simp only [qT]
   rcases List.mem_cons.1 h with rfl | h
   ·simp
   ·rw [if_neg (fun e=>hn.1 (List.mem_map.2 ⟨i,h,e.symm⟩))]; exact qt hn.2 h
theorem uo {role:Nat→Option Nat}:∀ {ps:List (Nat×List Nat)} {b:Nat},b ∉ ps.flatMap (·.2)→xJ role ps b=role b
 | [],_,_=>rfl
 | p :: ps,b,h=>by
   simp only [List.flatMap_cons,List.mem_append,not_or] at h
   simp only [xJ]; rw [if_neg h.1]; exact uo h.2
theorem sx {role:Nat→Option Nat}:∀ {ps:List (Nat×List Nat)} {p:Nat×List Nat} {b:Nat},(ps.flatMap (·.2)).Nodup→p ∈ ps→b ∈ p.2→xJ role ps b=some p.1
 | q :: ps,p,b,hn,h,hb=>by
   simp only [xJ]
   simp only [List.flatMap_cons,List.nodup_append] at hn
   rcases List.mem_cons.1 h with rfl | h
   ·rw [if_pos hb]
   ·rw [if_neg (fun e=>hn.2.2 b e b (List.mem_flatMap.2 ⟨p,h,hb⟩) rfl)]; exact sx hn.2.1 h hb
theorem lb (is:List Imp):(prs is).flatMap (·.2)=is.flatMap (·.bs):=by
 unfold prs; rw [List.flatMap_map]
def wT (hd:Nat→Value):List Nat→List Lent→Nat→Value
 | id :: ms,.row v _ _ :: ls,j=>if j=id then v else wT hd ms ls j
 | _ :: ms,_ :: ls,j=>wT hd ms ls j
 | _,_,j=>hd j
theorem qV {hd:Nat→Value}:∀ {ms:List Nat} {ls:List Lent} {j:Nat},j ∉ ms→wT hd ms ls j=hd j
 | [],ls,j,h=>by cases ls <;> rfl
 | id :: ms,[],j,h=>rfl
 | id :: ms,.row v _ _ :: ls,j,h=>by
   simp only [List.mem_cons,not_or] at h
   simp only [wT]; rw [if_neg h.1]; exact qV h.2
 | id :: ms,.box _ :: ls,j,h=>by
   simp only [List.mem_cons,not_or] at h
   simp only [wT]; exact qV h.2
 | id :: ms,.res _ _ :: ls,j,h=>by
   simp only [List.mem_cons,not_or] at h
   simp only [wT]; exact qV h.2
theorem Zk {hd:Nat→Value}:∀ {ms:List Nat} {ls:List Lent} {k id:Nat} {v:Value} {e sz:Nat},ms.Nodup→ms[k]? =some id→ls[k]? =some (.row v e sz)→wT hd ms ls id=v
 | [],ls,k,id,v,e,sz,hn,h1,h2=>by simp at h1
 | m :: ms,[],k,id,v,e,sz,hn,h1,h2=>by simp at h2
 | m :: ms,l :: ls,0,id,v,e,sz,hn,h1,h2=>by
   simp only [List.getElem?_cons_zero,Option.some.injEq] at h1 h2
   subst h1; subst h2
   simp [wT]
 | m :: ms,l :: ls,k+1,id,v,e,sz,hn,h1,h2=>by
   simp only [List.getElem?_cons_succ] at h1 h2
   simp only [List.nodup_cons] at hn
   have hne:id ≠ m:=by rintro rfl; exact hn.1 (List.mem_of_getElem? h1)
   have ih:=Zk (hd:=hd) hn.2 h1 h2
   cases l with
   | row _ _ _=>simp only [wT]; rw [if_neg hne]; exact ih
   | box _=>simp only [wT]; exact ih
   | res _ _=>simp only [wT]; exact ih
theorem Zt {w w':World}:∀ {outs:List (List D)} {ls ls':List Lent},Mvs w w' outs ls ls'→ls'.length=ls.length
 | [],ls,ls',⟨e1,e2⟩=>by rw [e1,e2]
 | _ :: outs,ls,ls',⟨l,r,l',r',e1,e2,_,h⟩=>by rw [e1,e2,List.length_cons,List.length_cons,Zt h]
theorem bJ {w w':World}:∀ {outs:List (List D)} {ls ls':List Lent},Mvs w w' outs ls ls'→(∀ b,Lent.box b ∈ ls'→Lent.box b ∈ ls)∧∀ k v,Lent.res k v ∈ ls'→Lent.res k v ∈ ls∧∀ b ∈ k.foot w' v,b < w.heap.size→b ∈ k.foot w v
 | [],ls,ls',⟨e1,e2⟩=>by subst e2; simp
 | ds :: outs,ls,ls',⟨l,r,l',r',e1,e2,h1,h⟩=>by
   subst e1; subst e2
   obtain ⟨i1,i2⟩:=bJ h
   cases l with
   | row v e sz=>
     obtain ⟨v',e,_⟩:=h1
     subst e
     refine ⟨fun b hb=>?_,fun k v hb=>?_⟩
     ·rcases List.mem_cons.1 hb with hb | hb
      ·cases hb
      ·exact List.mem_cons_of_mem _ (i1 b hb)
     ·rcases List.mem_cons.1 hb with hb | hb
      ·cases hb
      ·exact ⟨List.mem_cons_of_mem _ (i2 k v hb).1,(i2 k v hb).2⟩
   | res k0 v0=>
     obtain ⟨rfl,h1⟩:=h1
     refine ⟨fun b hb=>?_,fun k v hb=>?_⟩
     ·rcases List.mem_cons.1 hb with hb | hb
      ·cases hb
      ·exact List.mem_cons_of_mem _ (i1 b hb)
     ·rcases List.mem_cons.1 hb with hb | hb
      ·cases hb; exact ⟨List.mem_cons_self,h1⟩
      ·exact ⟨List.mem_cons_of_mem _ (i2 k v hb).1,(i2 k v hb).2⟩
   | box b0=>
     have h1':l'=Lent.box b0:=h1
     subst h1'
     refine ⟨fun b hb=>?_,fun k v hb=>?_⟩
     ·rcases List.mem_cons.1 hb with hb | hb
      ·cases hb; exact List.mem_cons_self
      ·exact List.mem_cons_of_mem _ (i1 b hb)
     ·rcases List.mem_cons.1 hb with hb | hb
      ·cases hb
      ·exact ⟨List.mem_cons_of_mem _ (i2 k v hb).1,(i2 k v hb).2⟩
theorem bh {w w':World}:∀ {ms:List Nat} {ls:List Lent},ls.length=ms.length→((ms.zip ls).map fun p=>(p.1,wW w w' p.2)).flatMap (·.2)=ls.flatMap (wW w w')
 | [],[],_=>rfl
 | [],_ :: _,h=>by simp at h
 | _ :: _,[],h=>by simp at h
 | m :: ms,l :: ls,h=>by
   simp only [List.zip_cons_cons,List.map_cons,List.flatMap_cons]
   rw [bh (by simpa using h)]
def Yv (c:C) (S:Nat→Nat) (w:World) (id:Nat) (x:Ob) (v':Value) (l':Lent):Prop:=x.leak=false∧
 ((∃ cells ds b cs et,(c.ob id).o= .box cells∧x.o= .box (ds.map dA)∧c.hd id= .pointer (some ⟨b,0,none⟩)∧w.heap[b]? =some (.cells cs et (0,0))∧RDl S w ds cs.toList∧S b=0∧x.ver=(c.ob id).ver∧v'=c.hd id) ∨
  (∃ e sz n0 cap0 cells0 n cap cells xs,(c.ob id).o= .row e sz n0 cap0 cells0∧x.o= .row e sz n cap cells∧w.ownsRow 0 e sz v' n xs∧RDl S w cells xs∧(∀ b,v'.ownBlock=some b→S b=0)∧l'= .row v' e sz∧
     (∀ b,v'.ownBlock=some b→b < c.w.heap.size→(c.hd id).ownBlock=some b)∧(x.ver=(c.ob id).ver∧v'=c.hd id∧cap=cap0 ∨ x.ver=(c.ob id).ver+1∧cap=none)) ∨
  (∃ k x0 y vs,(c.ob id).o= .res k x0∧x.o= .res k y∧k.Holds w (c.hd id) vs∧RDl S w (oS y) vs∧(∀ b ∈ k.foot w (c.hd id),S b=0)∧x.ver=(c.ob id).ver∧v'=c.hd id∧l'= .res k (c.hd id)∧∀ b ∈ k.foot w (c.hd id),b < c.w.heap.size→b ∈ k.foot c.w (c.hd id)))
theorem Zg {c:C} {role:Nat→Option Nat} (hobs:∀ id,ObOK c role id) {S:Nat→Nat} {w:World}:∀ {ms:List Nat} {outs:List (List D)} {bks:List (Nat×Ob)} {ls':List Lent},yG c.ob ms outs=some bks→ms.Nodup→
  (∀ id ∈ ms,qM c id)→Mvs c.w w outs (ms.map (zO c)) ls'→qg S w outs ls'→bks.map (·.1)=ms∧∀ id ∈ ms,∃ x l',(id,x) ∈ bks∧(id,l') ∈ ms.zip ls'∧Yv c S w id x (wT c.hd ms ls' id) l'
 | [],[],bks,ls',h,_,_,_,_=>by simp only [yG,Option.some.injEq] at h; subst h; simp
 | [],_ :: _,bks,ls',h,_,_,_,_=>by simp [yG] at h
 | _ :: _,[],bks,ls',h,_,_,_,_=>by simp [yG] at h
 | id :: ms,ds :: outs,bks,ls',h,hnd,hb,hm,hr=>by
   simp only [yG] at h
   obtain ⟨x,hx,h⟩:=bind_some h
   obtain ⟨bks',h',rfl⟩:=map_some h
   obtain ⟨l,r,l',r',e1,e2,hm1,hm2⟩:=hm
   simp only [List.map_cons,List.cons.injEq] at e1
   obtain ⟨rfl,rfl⟩:=e1
   subst e2
   obtain ⟨l1,r1,e3,hl,hr⟩:=hr
   simp only [List.cons.injEq] at e3
   obtain ⟨rfl,rfl⟩:=e3
   simp only [List.nodup_cons] at hnd
   obtain ⟨p1,p2⟩:=Zg hobs h' hnd.2 (fun i hi=>hb i (by simp [hi])) hm2 hr
   refine ⟨by simp [p1],?_⟩
   intro i hi
   rcases List.mem_cons.1 hi with rfl | hi
   ·refine ⟨x,l',by simp,by simp,?_⟩
    rcases hb i (by simp) with ⟨cells,ho⟩ | ⟨hlk,e,sz,n,cap,cells,ho⟩ | ⟨k,x0,ho⟩
    ·simp only [ro,ho,Option.some.injEq] at hx
     subst hx
     obtain ⟨b,h1,h2⟩:=nN hobs ho
     simp only [zO,ho,h1,yS,Option.getD_some,Mv] at hm1
     subst hm1
     obtain ⟨cs,et,q1,q2,q3⟩:=hl
     exact ⟨rfl,.inl ⟨cells,ds,b,cs,et,ho,rfl,h1,q1,q2,q3,rfl,by simp only [wT]; exact qV hnd.1⟩⟩
    ·simp only [zO,ho,Mv] at hm1
     obtain ⟨v',rfl,hm1,hm3⟩:=hm1
     obtain ⟨n',cells',xs,q0,q1,q2,q3⟩:=hl
     have ev:wT c.hd (i :: ms) (Lent.row v' e sz :: r') i=v':=by simp [wT]
     rw [ev]
     rcases q0 with rfl | rfl
     ·simp only [ro,ho,Option.some.injEq] at hx
      subst hx
      have hv:v'=c.hd i:=by
       rcases hm1 with h | ⟨_,_,h⟩
       ·exact h
       ·simp at h
      exact ⟨rfl,.inr (.inl ⟨e,sz,n,cap,cells,n',cap,cells',xs,ho,rfl,q1,q2,q3,rfl,hm3,.inl ⟨rfl,hv,rfl⟩⟩)⟩
     ·simp only [ro,ho,Option.some.injEq] at hx
      subst hx
      exact ⟨rfl,.inr (.inl ⟨e,sz,n,cap,cells,n',none,cells',xs,ho,rfl,q1,q2,q3,rfl,hm3,.inr ⟨rfl,rfl⟩⟩)⟩
    ·simp only [zO,ho,Mv] at hm1
     obtain ⟨rfl,hm1⟩:=hm1
     obtain ⟨y,vs,rfl,q1,q2,q3⟩:=hl
     simp only [ro,ho,Option.some.injEq] at hx
     subst hx
     exact ⟨rfl,.inr (.inr ⟨k,x0,y,vs,ho,rfl,q1,q2,q3,rfl,by simp only [wT]; exact qV hnd.1,rfl,hm1⟩)⟩
   ·obtain ⟨x',l2,q1,q2,q3⟩:=p2 i hi
    have hne:i ≠ id:=fun e=>hnd.1 (by rw [← e]; exact hi)
    have ev:wT c.hd (id :: ms) (l' :: r') i=wT c.hd ms r' i:=by
     cases l' with
     | row _ _ _=>simp only [wT]; rw [if_neg hne]
     | box _=>rfl
     | res _ _=>rfl
    exact ⟨x',l2,by simp [q1],by simp [q2],by rw [ev]; exact q3⟩
theorem Zi {S S':Nat→Nat} {w:World} {x:D} {v:Value} (h:x.flat=true) (hr:RD S w x v):RD S' w x v:=by
 cases x <;> first | exact hr | cases h
theorem lD {S S':Nat→Nat} {w:World}:∀ {xs:List D} {vs:List Value},xs.all D.flat=true→RDl S w xs vs→RDl S' w xs vs
 | [],_,_,h=>h
 | x :: xs,_,h,⟨v,r,e,h1,h2⟩=>by
   simp only [List.all_cons,Bool.and_eq_true] at h
   exact ⟨v,r,e,Zi h.1 h1,lD h.2 h2⟩
mutual
theorem d6 {fl:TypeId→Bool} {S S':Nat→Nat} {w:World}:∀ {x:X} {v:Value} {bs:List Nat},yq fl x=true→(∀ b ∈ bs,S' b=S b)→RX S w x v bs→RX S' w x v bs
 | .d x,v,bs,h,hb,⟨e,hr⟩=>⟨e,Zi (by simpa [yq] using h) hr⟩
 | .nil,v,bs,h,hb,hr=>hr
 | .own e sz n cap cells lk,v,bs,h,hb,⟨xs,h1,h2,h3,h4,h5⟩=>by
   simp only [yq,Bool.and_eq_true] at h
   refine ⟨xs,h1,lD h.2 h2,h3,?_,h5⟩
   intro b hbl
   rw [hb b (by rw [h3,hbl]; simp)]
   exact h4 b hbl
 | .box xs,v,bs,h,hb,⟨b,cs,et,bs',h1,h2,h3,h4,h5,h6⟩=>by
   refine ⟨b,cs,et,bs',h1,h2,nQ (by simpa [yq] using h) (fun b' hb'=>hb b' (by rw [h4]; exact List.mem_append.2 (.inl hb'))) h3,h4,?_,h6⟩
   rw [hb b (by rw [h4]; simp)]; exact h5
 | .agg xs,v,bs,h,hb,⟨vs,h1,h2⟩=>⟨vs,h1,nQ (by simpa [yq] using h) hb h2⟩
 | .tup xs,v,bs,h,hb,⟨vs,h1,h2⟩=>⟨vs,h1,nQ (by simpa [yq] using h) hb h2⟩
 | .par k,v,bs,h,hb,hr=>hr
 | .res _ _,v,bs,h,hb,hr=>by simp [yq] at h
theorem nQ {fl:TypeId→Bool} {S S':Nat→Nat} {w:World}:∀ {xs:List X} {vs:List Value} {bs:List Nat},vF fl xs=true→(∀ b ∈ bs,S' b=S b)→RXs S w xs vs bs→RXs S' w xs vs bs
 | [],vs,bs,h,hb,hr=>hr
 | x :: xs,vs,bs,h,hb,⟨v,r,b1,b2,e1,e2,h1,h2⟩=>by
   simp only [vF,Bool.and_eq_true] at h
   exact ⟨v,r,b1,b2,e1,e2,d6 h.1 (fun b hb'=>hb b (by rw [e2]; exact List.mem_append.2 (.inl hb'))) h1,nQ h.2 (fun b hb'=>hb b (by rw [e2]; exact List.mem_append.2 (.inr hb'))) h2⟩
end
theorem X2 {y:D} (h:y.flat=true):(oS y).all D.flat=true:=by
 cases y <;> simp_all [oS,D.flat]
theorem jP {S S':Nat→Nat} {w:World}:∀ {outs:List (List D)} {ls:List Lent},outs.all sv=true→((∀ b,Lent.box b ∈ ls→S' b=S b)∧∀ k v,Lent.res k v ∈ ls→∀ b ∈ k.foot w v,S' b=S b)→qg S w outs ls→qg S' w outs ls
 | [],ls,h,hb,hr=>hr
 | ds :: outs,ls,h,hb,⟨l,r,e,h1,h2⟩=>by
   simp only [List.all_cons,Bool.and_eq_true] at h
   subst e
   refine ⟨l,r,rfl,?_,jP h.2 ⟨fun b hb'=>hb.1 b (by simp [hb']),fun k v hb'=>hb.2 k v (by simp [hb'])⟩ h2⟩
   cases l with
   | box b=>
     obtain ⟨cs,et,q1,q2,q3⟩:=h1
     exact ⟨cs,et,q1,lD h.1 q2,by rw [hb.1 b (by simp)]; exact q3⟩
   | res k v=>
     obtain ⟨y,vs,rfl,q1,q2,q3⟩:=h1
     have hy:y.flat=true:=by simpa [sv] using h.1
     exact ⟨y,vs,rfl,q1,lD (X2 hy) q2,fun b hb'=>by rw [hb.2 k v (by simp) b hb']; exact q3 b hb'⟩
   | row v e sz=>
     obtain ⟨n,cells,xs,q1,_⟩:=h1
     rcases q1 with q1 | q1 <;> rw [q1] at h <;> simp [sv,D.flat] at h
theorem JY {c:C} {x:D} {v:Value} (h:RD c.S c.w x v):R c (dA x) v:=by cases x <;> exact h
theorem ZU {c:C}:∀ {ds:List D} {vs:List Value},RDl c.S c.w ds vs→Rl c (ds.map dA) vs
 | [],_,h=>h
 | _ :: _,_,⟨v,r,e,h1,h2⟩=>⟨v,r,e,JY h1,ZU h2⟩
theorem gW:∀ (ds:List D),(ds.map dA).all one=true
 | []=>rfl
 | x :: xs=>by
   simp only [List.map_cons,List.all_cons,gW xs,Bool.and_true]
   cases x <;> rfl
section
variable {P:Program} {c:C} {role:Nat→Option Nat} {Γ:Ctx}
omit P Γ in
mutual
theorem d9 {c':C} {ob:Nat→Ob} {ms:List Nat} {ls:List Lent} (hp:∀ (k id:Nat) (v:Value) (e sz:Nat),ms[k]? =some id→ls[k]? =some (Lent.row v e sz)→R c' (.row id (ob id).ver) v):
  ∀ (x:X) (a:A) (v:Value),ParOK ls x v→R c' a v→R c' (yB ob ms x a) v
 | .par k,a,v,hx,ha=>by
   simp only [yB]
   obtain ⟨e,sz,h⟩:=hx
   cases hm:ms[k]? with
   | none=>exact trivial
   | some id=>exact hp k id v e sz hm h
 | .agg xs,.agg as,v,hx,⟨vs,e,ha⟩=>by
   simp only [yB]
   simp only [ParOK] at hx
   exact ⟨vs,e,fo hp xs as vs.toList (hx vs e) ha⟩
 | .tup xs,.tup as,v,hx,⟨vs,e,ha⟩=>by
   simp only [yB]
   simp only [ParOK] at hx
   exact ⟨vs,e,fo hp xs as vs.toList (hx vs e) ha⟩
 | .d _,a,v,_,ha=>by cases a <;> simpa only [yB] using ha
 | .nil,a,v,_,ha=>by cases a <;> simpa only [yB] using ha
 | .own ..,a,v,_,ha=>by cases a <;> simpa only [yB] using ha
 | .box _,a,v,_,ha=>by cases a <;> simpa only [yB] using ha
 | .res _ _,a,v,_,ha=>by cases a <;> simpa only [yB] using ha
 | .agg xs,.undef,v,_,ha=>by simpa only [yB] using ha
 | .agg xs,.d _,v,_,ha=>by simpa only [yB] using ha
 | .agg xs,.nil,v,_,ha=>by simpa only [yB] using ha
 | .agg xs,.row ..,v,_,ha=>by simpa only [yB] using ha
 | .agg xs,.adr ..,v,_,ha=>by simpa only [yB] using ha
 | .agg xs,.rad ..,v,_,ha=>by simpa only [yB] using ha
 | .agg xs,.vw ..,v,_,ha=>by simpa only [yB] using ha
 | .agg xs,.cp _,v,_,ha=>by simpa only [yB] using ha
 | .agg xs,.tup _,v,_,ha=>by simpa only [yB] using ha
 | .tup xs,.undef,v,_,ha=>by simpa only [yB] using ha
 | .tup xs,.d _,v,_,ha=>by simpa only [yB] using ha
 | .tup xs,.nil,v,_,ha=>by simpa only [yB] using ha
 | .tup xs,.row ..,v,_,ha=>by simpa only [yB] using ha
 | .tup xs,.adr ..,v,_,ha=>by simpa only [yB] using ha
 | .tup xs,.rad ..,v,_,ha=>by simpa only [yB] using ha
 | .tup xs,.vw ..,v,_,ha=>by simpa only [yB] using ha
 | .tup xs,.cp _,v,_,ha=>by simpa only [yB] using ha
 | .tup xs,.agg _,v,_,ha=>by simpa only [yB] using ha
theorem fo {c':C} {ob:Nat→Ob} {ms:List Nat} {ls:List Lent} (hp:∀ (k id:Nat) (v:Value) (e sz:Nat),ms[k]? =some id→ls[k]? =some (Lent.row v e sz)→R c' (.row id (ob id).ver) v):
  ∀ (xs:List X) (as:List A) (vs:List Value),ParOKs ls xs vs→Rl c' as vs→Rl c' (ti ob ms xs as) vs
 | [],as,vs,_,ha=>by cases as <;> simpa only [ti] using ha
 | _ :: _,[],vs,_,ha=>by simpa only [ti] using ha
 | x :: xs,a :: as,vs,hx,⟨v,r,e,h1,h2⟩=>by
   subst e
   simp only [ParOKs] at hx
   simp only [ti]
   exact ⟨v,r,rfl,d9 hp x a v hx.1 h1,fo hp xs as r hx.2 h2⟩
end
theorem eL (hobs:∀ id,ObOK c role id) {m:Bool} {as:List A} {vals:Array Value} {d:Nat} (hR:Rl c as vals.toList)
  {xs:List X} {ls ms:List Nat} (htx:wq m c.ob as=some (xs,ls,ms)) (hdist:(zF ms&&!(ms.any fun m=>ls.any (· == m)))=true):
  ∃ S1 bs,RXs S1 c.w xs vals.toList bs∧(bs.Nodup∧∀ b ∈ bs,role b ≠ none)∧Stab c.S c.w S1 c.w∧∀ (xo:XOut) (out:Out),oT Γ c.ob d ls ms xo=some out→∀ e w2,nZ S1 c.w bs (yF xs vals.toList) xo e w2→bu c role out e w2:=by
 simp only [Bool.and_eq_true,Bool.not_eq_true',List.any_eq_false,beq_iff_eq] at hdist
 have hmsn:=rn hdist.1
 obtain ⟨p1,p2,p4,p3⟩:=ci hobs m as vals.toList xs ls ms htx hR
 obtain ⟨S1,x1,x2⟩:=w4 ls hobs p1
 have hms:∀ id ∈ ms,id ∉ ls:=fun id h1 h2=>hdist.2 id h1 (List.any_eq_true.2 ⟨id,h2,by simp⟩)
 have hrole:∀ id ∈ ms,∀ b ∈ blk c id,role b=some id:=fun id hid=>pL hobs (p2 id hid)
 have hzero:∀ (S:Nat→Nat) (LS:List Nat),(∀ id ∈ ms,id ∉ LS)→(∀ id,ObOK ⟨S,c.w,c.hd,za c.ob (zl c.ob LS)⟩ role id)→∀ id ∈ ms,∀ b ∈ blk c id,S b=0:=by
  intro S LS hLS hob id hid b hb
  have hb1:=hob id
  unfold blk xu at hb
  have hsame:za c.ob (zl c.ob LS) id=c.ob id:=xw _ _ (by unfold zl; rw [List.map_map]; simpa using hLS id hid)
  rcases p2 id hid with ⟨cells,ho⟩ | ⟨hlk,e,sz,n,cap,cells,ho⟩ | ⟨k,x,ho⟩
  ·obtain ⟨b',cs,et,h1,h2,_,_,h5,h6⟩:=wQ (c:=⟨S,c.w,c.hd,za c.ob (zl c.ob LS)⟩) hb1 (by simp only [hsame]; exact ho)
   simp only at h1 h5
   rw [ho,h1] at hb; simp only [yS,Option.toList_some,List.mem_singleton] at hb; subst hb; exact h5
  ·obtain ⟨xs',h1,h2,h3,h4⟩:=x9 (c:=⟨S,c.w,c.hd,za c.ob (zl c.ob LS)⟩) hb1 (by simp only [hsame]; exact ho)
   simp only [hsame,hlk,Bool.false_eq_true,if_false] at h3
   simp only at h1
   rw [ho] at hb
   simp only [xe h1,Option.mem_toList] at hb
   exact (h3 b hb).2
  ·obtain ⟨vs,h1,h2,h3⟩:=sX (c:=⟨S,c.w,c.hd,za c.ob (zl c.ob LS)⟩) hb1 (by simp only [hsame]; exact ho)
   rw [ho] at hb
   exact (h3 b hb).2
 have hargs:=p3 S1 x1.le.stab x2 (hzero S1 ls hms x1.obs)
 have hbs:(ms.flatMap (blk c)).Nodup:=eK hobs hmsn p2
 refine ⟨S1,_,hargs,⟨hbs,fun b hb=>by
  obtain ⟨id,hid,e⟩:=List.mem_flatMap.1 hb
  rw [hrole id hid b e]; simp⟩,x1.le.stab,?_⟩
 intro xo out he e w2 hends
 rw [p4] at hends
 obtain ⟨S2,hos,htape,hout,hsize,hframe,hpost⟩:=hends
 have hinbs:∀ b,b ∈ ms.flatMap (blk c) ↔ ∃ id ∈ ms,b ∈ blk c id:=by
  intro b
  rw [List.mem_flatMap]
 have common:∀ (S1:Nat→Nat) (LS:List Nat) (hLS:∀ id ∈ ms,id ∉ LS) (x1:Ext c ⟨S1,c.w,c.hd,za c.ob (zl c.ob LS)⟩ role role) (S2:Nat→Nat)
   (hframe:∀ b,b < c.w.heap.size→b ∉ ms.flatMap (blk c)→w2.heap[b]? =c.w.heap[b]? ∧S2 b=S1 b)
   (is:List Imp) (bks:List (Nat×Ob)) (outs:List (List D)) (ls':List Lent),(is.map (·.id)).Nodup→(is.flatMap (·.bs)++ls'.flatMap (wW c.w w2)).Nodup→(∀ b ∈ is.flatMap (·.bs),c.w.heap.size ≤ b)→Mvs c.w w2 outs (ms.map (zO c)) ls'→
   (∀ i ∈ is,i.ob.ver=(za c.ob bks i.id).ver+1)→
   yG c.ob ms outs=some bks→qg S2 w2 outs ls'→
   (∀ (c':C) (role':Nat→Option Nat),c'.S=S2→c'.w=w2→lB c' role' is→∀ i ∈ is,ObOK c' role' i.id)→
   ∃ hd' role',Ext c ⟨S2,w2,hd',za c.ob (zl c.ob LS++(bks++is.map fun i=>(i.id,i.ob)))⟩ role role'∧
   lB ⟨S2,w2,hd',za c.ob (zl c.ob LS++(bks++is.map fun i=>(i.id,i.ob)))⟩ role' is∧
   (∀ (k id:Nat) (v:Value) (e sz:Nat),ms[k]? =some id→ls'[k]? =some (Lent.row v e sz)→R ⟨S2,w2,hd',za c.ob (zl c.ob LS++(bks++is.map fun i=>(i.id,i.ob)))⟩ (.row id (za c.ob bks id).ver) v):=by
  intro S1 LS hLS x1 S2 hframe is bks outs ls' hn1 hn2' hfresh' hmv hver hbk hro hnewobs
  let lps:List (Nat×List Nat):=(ms.zip ls').map fun p=>(p.1,wW c.w w2 p.2)
  have hlps:lps.flatMap (·.2)=ls'.flatMap (wW c.w w2):=bh (by have:=Zt hmv; simpa using this)
  have hlfresh:∀ b ∈ lps.flatMap (·.2),c.w.heap.size ≤ b:=by
   intro b hb
   rw [hlps] at hb
   obtain ⟨l,_,hl⟩:=List.mem_flatMap.1 hb
   cases l with
   | res k v=>simp only [wW,List.mem_filter,decide_eq_true_eq] at hl; exact hl.2
   | box _=>simp [wW] at hl
   | row _ _ _=>simp only [wW,List.mem_filter,decide_eq_true_eq] at hl; exact hl.2
  let hd1:=wT c.hd ms ls'
  have hn2:((prs is++lps).flatMap (·.2)).Nodup:=by rw [List.flatMap_append,lb,hlps]; exact hn2'
  have hfresh:∀ b ∈ (prs is++lps).flatMap (·.2),c.w.heap.size ≤ b:=by
   intro b hb
   rw [List.flatMap_append,lb] at hb
   rcases List.mem_append.1 hb with hb | hb
   ·exact hfresh' b hb
   ·exact hlfresh b hb
  have hz:=hzero S1 LS hLS x1.obs
  obtain ⟨k1,k2⟩:=Zg hobs hbk hmsn p2 hmv hro
  have hobT:∀ id,id ∈ is.map (·.id)→∀ i ∈ is,i.id=id→za c.ob (zl c.ob LS++(bks++is.map fun i=>(i.id,i.ob))) id=i.ob:=by
   intro id hid i hi e
   rw [yh,yh]
   exact oq _ _ (by rw [List.map_map]; exact hn1) (List.mem_map.2 ⟨i,hi,by rw [e]⟩)
  have hobM:∀ id,id ∉ is.map (·.id)→id ∈ ms→∀ x,(id,x) ∈ bks→za c.ob (zl c.ob LS++(bks++is.map fun i=>(i.id,i.ob))) id=x:=by
   intro id h1 h2 x hx
   rw [yh,yh,xw _ _ (by rw [List.map_map]; exact h1)]
   exact oq _ _ (by rw [k1]; exact hmsn) hx
  have hobN:∀ id,id ∉ is.map (·.id)→id ∉ ms→za c.ob (zl c.ob LS++(bks++is.map fun i=>(i.id,i.ob))) id=za c.ob (zl c.ob LS) id:=by
   intro id h1 h2
   rw [yh,yh,xw _ _ (by rw [List.map_map]; exact h1),xw _ _ (by rw [k1]; exact h2)]
  have hobB:∀ id,id ∈ ms→∀ x,(id,x) ∈ bks→za c.ob bks id=x:=by
   intro id h2 x hx
   exact oq _ _ (by rw [k1]; exact hmsn) hx
  have hverB:∀ id,(c.ob id).ver ≤ (za c.ob bks id).ver:=by
   intro id
   by_cases hm:id ∈ ms
   ·obtain ⟨x,l',q1,_,q3,q4⟩:=k2 id hm
    rw [hobB id hm x q1]
    rcases q4 with ⟨_,_,_,_,_,_,_,_,_,_,_,e,_⟩ | ⟨_,_,_,_,_,_,_,_,_,_,_,_,_,_,_,_,(⟨e,_⟩ | ⟨e,_⟩)⟩ | ⟨_,_,_,_,_,_,_,_,_,e,_⟩ <;> omega
   ·rw [xw _ _ (by rw [k1]; exact hm)]; exact Nat.le_refl _
  have himp:lB ⟨S2,w2,qT hd1 is,za c.ob (zl c.ob LS++(bks++is.map fun i=>(i.id,i.ob)))⟩ (xJ role (prs is++lps)) is:=
   ⟨fun i hi=>⟨hobT i.id (List.mem_map.2 ⟨i,hi,rfl⟩) i hi rfl,qt hn1 hi⟩,fun i hi b hb=>sx hn2 (List.mem_append.2 (.inl (List.mem_map.2 ⟨i,hi,rfl⟩))) hb⟩
  refine ⟨qT hd1 is,xJ role (prs is++lps),x1.trans ?_,himp,?_⟩
  rotate_left
  ·intro k id v e sz hk hl
   have hid:id ∈ ms:=List.mem_of_getElem? hk
   obtain ⟨x,l',q1,q2,q3,q4⟩:=k2 id hid
   have hh:hd1 id=v:=Zk hmsn hk hl
   have hx:=hobB id hid x q1
   have hone:v.oneCell'=true:=by
    rcases q4 with ⟨cells,ds,b,cs,et,ho,hx',_,_,_,_,_,e1⟩ | ⟨_,_,_,_,_,_,_,_,_,_,_,g,_⟩ | ⟨_,_,_,_,_,_,g,_,_,_,e1,_⟩
    ·have e2:hd1 id=c.hd id:=e1
     rw [← hh,e2]
     obtain ⟨b',h1,_⟩:=nN hobs ho
     rw [h1]; rfl
    ·rw [← hh]
     obtain ⟨a,k',e1,_⟩:=xW g
     show (wT c.hd ms ls' id).oneCell'=true
     rw [e1]; rfl
    ·have e2:hd1 id=c.hd id:=e1
     rw [← hh,e2]
     exact g.one
   refine ⟨hone,?_,?_⟩
   ·by_cases hi:id ∈ is.map (·.id)
    ·obtain ⟨i,hi',e⟩:=List.mem_map.1 hi
     show _ ≤ (za c.ob _ id).ver
     rw [hobT id hi i hi' e,hver i hi',e]; omega
    ·show _ ≤ (za c.ob _ id).ver
     rw [hobM id hi hid x q1,hx]; exact Nat.le_refl _
   ·intro h1 _
    have h1':(za c.ob bks id).ver=(za c.ob (zl c.ob LS++(bks++is.map fun i=>(i.id,i.ob))) id).ver:=h1
    by_cases hi:id ∈ is.map (·.id)
    ·obtain ⟨i,hi',e⟩:=List.mem_map.1 hi
     rw [hobT id hi i hi' e,hver i hi',e] at h1'
     omega
    ·show v=qT hd1 is id
     rw [sW hi,hh]
  refine Ss x1.obs (fun id=>id ∈ is.map (·.id) ∨ id ∈ ms) ?_ ?_ ?_ ?_ ?_ hos htape hout hsize ?_
  ·intro b hb hT
   refine hframe b hb ?_
   intro hmem
   obtain ⟨id,h1,h2⟩:=(hinbs b).1 hmem
   exact hT id (hrole id h1 b h2) (.inr h1)
  ·intro b id o v hr hT ho hv
   have hlt:=World.block_lt_of_cell? c.w ⟨b,o,none⟩ hv
   have hnb:b ∉ ms.flatMap (blk c):=by
    intro hmem
    obtain ⟨id',h1,h2⟩:=(hinbs b).1 hmem
    have:=hz id' h1 b h2
    simp only at ho; omega
   have hf:=hframe b hlt hnb
   refine ⟨by show o < S2 b; rw [hf.2]; exact ho,?_⟩
   show w2.cell? _=_
   rw [World.cell?_of_block (w:=c.w) hf.1]; exact hv
  ·intro b hb
   exact uo (fun hm=>by have:=hfresh b hm; simp only at hb; omega)
  ·intro j hj
   simp only [not_or] at hj
   exact ⟨hobN j hj.1 hj.2,(sW hj.1).trans (qV hj.2)⟩
  ·intro id hT
   by_cases hi:id ∈ is.map (·.id)
   ·left
    obtain ⟨i,hi',e⟩:=List.mem_map.1 hi
    show (za c.ob (zl c.ob LS) id).ver < (za c.ob _ id).ver
    rw [hobT id hi i hi' e,hver i hi',nD c.ob id LS c.ob rfl,e]
    have:=hverB id
    omega
   ·have hm:id ∈ ms:=hT.resolve_left hi
    obtain ⟨x,l',q1,q2,q3,q4⟩:=k2 id hm
    have e1:=hobM id hi hm _ q1
    have e2:=mS c.ob id LS c.ob rfl
    have e3:=nD c.ob id LS c.ob rfl
    have same:x.ver=(c.ob id).ver→x.o.isRow=(c.ob id).o.isRow→x.o.isBox=(c.ob id).o.isBox→wT c.hd ms ls' id=c.hd id→_:=fun a1 a2 a3 a4=>
     Or.inr (a:=(za c.ob (zl c.ob LS) id).ver < (za c.ob (zl c.ob LS++(bks++is.map fun i=>(i.id,i.ob))) id).ver) (b:=(za c.ob (zl c.ob LS++(bks++is.map fun i=>(i.id,i.ob))) id).ver=(za c.ob (zl c.ob LS) id).ver∧(za c.ob (zl c.ob LS++(bks++is.map fun i=>(i.id,i.ob))) id).o.isRow=(za c.ob (zl c.ob LS) id).o.isRow∧(za c.ob (zl c.ob LS++(bks++is.map fun i=>(i.id,i.ob))) id).o.isBox=(za c.ob (zl c.ob LS) id).o.isBox∧qT hd1 is id=c.hd id)
       ⟨by rw [e1,e3,a1],by rw [e1,e2,a2],by rw [e1,e2,a3],(sW hi).trans a4⟩
    rcases q4 with ⟨cells,ds,b,cs,et,ho,hx,_,_,_,_,a1,a4⟩ | ⟨e,sz,n0,cap0,cells0,n,cap,cells,xs,ho,hx,_,_,_,_,_,(⟨a1,a4,_⟩ | ⟨a1,_⟩)⟩ | ⟨k,x0,y,vs,ho,hx,_,_,_,a1,a4,_⟩
    ·exact same a1 (by rw [ho,hx]; rfl) (by rw [ho,hx]; rfl) a4
    ·exact same a1 (by rw [ho,hx]; rfl) (by rw [ho,hx]; rfl) a4
    ·left
     show (za c.ob (zl c.ob LS) id).ver < (za c.ob _ id).ver
     rw [e1,e3,a1]; omega
    ·exact same a1 (by rw [ho,hx]; rfl) (by rw [ho,hx]; rfl) a4
  ·intro hle id hT
   by_cases hi:id ∈ is.map (·.id)
   ·obtain ⟨i,hi',e⟩:=List.mem_map.1 hi
    rw [← e]
    exact hnewobs _ _ rfl rfl himp i hi'
   ·have hm:id ∈ ms:=hT.resolve_left hi
    obtain ⟨x,l',q1,q2,q3,q4⟩:=k2 id hm
    have hrl:∀ b ∈ blk c id,b < c.w.heap.size→xJ role (prs is++lps) b=some id:=by
     intro b hb hlt
     rw [uo (fun hm'=>by have:=hfresh b hm'; omega)]
     exact hrole id hm b hb
    have hrn:∀ b ∈ wW c.w w2 l',xJ role (prs is++lps) b=some id:=fun b hb=>
     sx (p:=(id,wW c.w w2 l')) hn2 (List.mem_append.2 (.inr (List.mem_map.2 ⟨(id,l'),q2,rfl⟩))) hb
    rcases q4 with ⟨cells,ds,b,cs,et,ho,hx,g1,g2,g3,g4,a1,a4⟩ | ⟨e,sz,n0,cap0,cells0,n,cap,cells,xs,ho,hx,g1,g2,g3,el,gb,ga⟩ | ⟨k,x0,y,vs,ho,hx,g1,g2,g3,a1,a4,el,gk⟩
    ·obtain ⟨b',cs',et',r1,r2,_⟩:=wQ (hobs id) ho
     rw [g1] at r1; injection r1 with r1; injection r1 with r1; injection r1 with r1; subst r1
     unfold ObOK
     simp only [hobM id hi hm _ q1,hx]
     exact ⟨b,cs,et,by rw [sW hi]; exact a4.trans g1,g2,ZU g3,gW ds,g4,hrl b (by simp [blk,xu,ho,g1,yS]) (ow r2)⟩
    ·obtain ⟨xs0,r1,r2,r3,r4⟩:=x9 (hobs id) ho
     unfold ObOK
     simp only [hobM id hi hm _ q1,hx,sW hi]
     refine ⟨xs,g1,g2,?_,?_⟩
     ·intro b hb
      refine ⟨?_,?_⟩
      ·by_cases hlt:b < c.w.heap.size
       ·exact hrl b (by simp only [blk,xu,ho,xe r1,gb b hb hlt,Option.toList_some,List.mem_singleton]) hlt
       ·refine hrn b ?_
        rw [el]
        simp only [wW,List.mem_filter,decide_eq_true_eq]
        exact ⟨by rw [hb]; simp,by omega⟩
      ·rw [q3]; simp only [Bool.false_eq_true,if_false]
       exact g3 b hb
     ·intro k hk
      rcases ga with ⟨_,a4,ac⟩ | ⟨_,ac⟩
      ·rw [ac] at hk
       obtain ⟨a,ha⟩:=r4 k hk
       obtain ⟨a',k',ha',_⟩:=xW g1
       have ha2:wT c.hd ms ls' id=Value.slice a n0 k:=a4.trans ha
       rw [ha2] at ha'
       injection ha' with e1 e2 e3
       exact ⟨a,by show wT c.hd ms ls' id=_; rw [ha2,e2]⟩
      ·rw [ac] at hk; cases hk
    ·unfold ObOK
     simp only [hobM id hi hm _ q1,hx,sW hi]
     have a5:hd1 id=c.hd id:=a4
     rw [a5]
     refine ⟨vs,g1,g2,fun b hb=>⟨?_,g3 b hb⟩⟩
     by_cases hlt:b < c.w.heap.size
     ·exact hrl b (by simp only [blk,xu,ho]; exact gk b hb hlt) hlt
     ·refine hrn b ?_
      rw [el]
      simp only [wW,List.mem_filter,decide_eq_true_eq]
      exact ⟨hb,by omega⟩
 let S3:Nat→Nat:=fun b=>if b < c.w.heap.size∧b ∉ ms.flatMap (blk c) then c.S b else S2 b
 have hS3:∀ b,b < c.w.heap.size→b ∉ ms.flatMap (blk c)→w2.heap[b]? =c.w.heap[b]? ∧S3 b=c.S b:=by
  intro b h1 h2
  refine ⟨(hframe b h1 h2).1,?_⟩
  show (if _ then _ else _)=_
  rw [if_pos ⟨h1,h2⟩]
 have hS3n:∀ b,c.w.heap.size ≤ b→S3 b=S2 b:=by
  intro b h1
  show (if _ then _ else _)=_
  rw [if_neg (by omega)]
 have hS3m:∀ b,b ∈ ms.flatMap (blk c)→S3 b=S2 b:=by
  intro b h1
  show (if _ then _ else _)=_
  rw [if_neg (fun q=>q.2 h1)]
 have hlb1:∀ b,Lent.box b ∈ ms.map (zO c)→S3 b=S2 b:=by
  intro b hb
  obtain ⟨id,hid,e⟩:=List.mem_map.1 hb
  rcases p2 id hid with ⟨cells,ho⟩ | ⟨hlk,e',sz,n,cap,cells,ho⟩ | ⟨k,x,ho⟩
  ·obtain ⟨b',h1,h2⟩:=nN hobs ho
   simp only [zO,ho,h1,yS,Option.getD_some,Lent.box.injEq] at e
   subst e
   exact hS3m _ ((hinbs _).2 ⟨id,hid,by simp [blk,xu,ho,h1,yS]⟩)
  ·simp [zO,ho] at e
  ·simp [zO,ho] at e
 have hlb2:∀ k v,Lent.res k v ∈ ms.map (zO c)→(∀ b ∈ k.foot w2 v,b < c.w.heap.size→b ∈ k.foot c.w v)→∀ b ∈ k.foot w2 v,S3 b=S2 b:=by
  intro k v hb hkept b hbf
  by_cases hlt:b < c.w.heap.size
  ·have hk:=hkept b hbf hlt
   obtain ⟨id,hid,e⟩:=List.mem_map.1 hb
   rcases p2 id hid with ⟨cells,ho⟩ | ⟨hlk,e',sz,n,cap,cells,ho⟩ | ⟨k',x,ho⟩
   ·simp [zO,ho] at e
   ·simp [zO,ho] at e
   ·simp only [zO,ho,Lent.res.injEq] at e
    obtain ⟨rfl,rfl⟩:=e
    exact hS3m _ ((hinbs _).2 ⟨id,hid,by simp only [blk,xu,ho]; exact hk⟩)
  ·exact hS3n b (by omega)
 have x0:Ext c ⟨c.S,c.w,c.hd,za c.ob (zl c.ob [])⟩ role role:=Ext.refl hobs
 cases xo with
 | ret x outs=>
   obtain ⟨bks,hbk,e'⟩:=map_some he
   subst e'
   obtain ⟨v,b1,ls',hv,hRX,hnd,hfr,hro,hpar,hmv⟩:=hpost
   have hver:∀ (is:List Imp),is.map (fun i=>(i.id,i.ob))=(ofX (za c.ob bks) d x 0).2.1→∀ i ∈ is,i.ob.ver=(za c.ob bks i.id).ver+1:=by
    have hall:∀ p ∈ (ofX (za c.ob bks) d x 0).2.1,p.2.ver=(za c.ob bks p.1).ver+1:=mU _ d x 0
    intro is i1 i hi
    have:(i.id,i.ob) ∈ (ofX (za c.ob bks) d x 0).2.1:=by rw [← i1]; exact List.mem_map.2 ⟨i,hi,rfl⟩
    exact hall _ this
   by_cases hpl:(yq Γ.fl x&&outs.all sv)=true
   ·rw [if_pos hpl]
    simp only [Bool.and_eq_true] at hpl
    have hRX':RX S3 w2 x v b1:=d6 hpl.1 (fun b hb=>hS3n b (hfr b hb)) hRX
    obtain ⟨mb,mr⟩:=bJ hmv
    have hro':qg S3 w2 outs ls':=jP hpl.2 ⟨fun b hb=>hlb1 b (mb b hb),fun k v hb=>hlb2 k v (mr k v hb).1 (mr k v hb).2⟩ hro
    obtain ⟨is,i1,i2,i3,i4,i6,_,_,i5⟩:=m8 (za c.ob bks) d S3 w2 x 0 v b1 hRX'
    obtain ⟨hd',role',hext,himp,hfin⟩:=common c.S [] (by simp) x0 S3 hS3 is bks outs ls' i6 (by rw [i4]; exact hnd) (by rw [i4]; exact hfr) hmv (hver is i1) hbk hro' (fun c' role' h1 h2 h3=>(i5 c' role' h1 h2 h3).2)
    rw [i1] at hext himp hfin
    exact ⟨S3,hd',role',v,hv,hext,d9 hfin x _ v hpar (i5 _ _ rfl rfl himp).1⟩
   ·rw [if_neg hpl]
    obtain ⟨is,i1,i2,i3,i4,i6,_,_,i5⟩:=m8 (za c.ob bks) d S2 w2 x 0 v b1 hRX
    obtain ⟨hd',role',hext,himp,hfin⟩:=common S1 ls hms x1 S2 hframe is bks outs ls' i6 (by rw [i4]; exact hnd) (by rw [i4]; exact hfr) hmv (hver is i1) hbk hro (fun c' role' h1 h2 h3=>(i5 c' role' h1 h2 h3).2)
    rw [i1] at hext himp hfin
    exact ⟨S2,hd',role',v,hv,hext,d9 hfin x _ v hpar (i5 _ _ rfl rfl himp).1⟩
 | pan x outs=>
   obtain ⟨bks,hbk,e'⟩:=map_some he
   subst e'
   obtain ⟨v,ls',hv,hRD,hro,hnd,hmv⟩:=hpost
   ·obtain ⟨hd',role',hext,_⟩:=common S1 ls hms x1 S2 hframe [] bks outs ls' List.nodup_nil (by simpa using hnd) (by simp) hmv (by simp) hbk hro (by simp)
    simp only [List.map_nil,List.append_nil] at hext
    exact ⟨S2,hd',role',v,hv,hext,hRD⟩
theorem WI (hΓ:SoundAll P Γ) (hobs:∀ id,ObOK c role id) (hgl:Ld c.w role) {as:List A} {vals:Array Value} {f d:Nat} {out:Out} (hR:Rl c as vals.toList) (he:sY Γ c.ob d f as=some out):
  (callFunc f vals).run P c.w= .ok (.enter f vals) c.w∧Calls P f vals c.w (bu c role out):=by
 unfold sY at he
 obtain ⟨⟨xs,ls,ms⟩,htx,he⟩:=bind_some he
 simp only at he
 split at he
 case isFalse=>cases he
 rename_i hdist
 obtain ⟨xo,hF,he⟩:=bind_some he
 obtain ⟨S1,bs,h1,h2,_,h3⟩:=eL (Γ:=Γ) (d:=d) hobs hR htx hdist
 obtain ⟨hcf,hcalls⟩:=hΓ f S1 c.w vals xs bs h1 ⟨h2.1,hgl.1,fun b hb=>⟨(hgl.2 b hb).1,fun hm=>h2.2 b hm (hgl.2 b hb).2⟩⟩ xo hF
 exact ⟨hcf,hcalls.mono fun e w2 h=>h3 xo out (by cases xo <;> exact he) e w2 h⟩
end
end Go.Vm
