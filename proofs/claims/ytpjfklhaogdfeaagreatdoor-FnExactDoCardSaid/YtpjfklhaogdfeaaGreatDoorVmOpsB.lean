import Derived.Test.YtpjfklhaogdfeaaGreatDoorVmOpsA
import Derived.Laws.BytesString
set_option linter.unusedVariables false
set_option linter.unusedSectionVars false
set_option linter.unusedSimpArgs false
namespace Go.Vm
theorem ow {w:World} {b:Nat} {x:Obj} (h:w.heap[b]? =some x):b < w.heap.size:=(Array.getElem?_eq_some_iff.1 h).1
theorem cG {w w':World} {e sz n:Nat} {v:Value} {xs:List Value} (h:w.ownsRow 0 e sz v n xs) (hb:∀ b,v.ownBlock=some b→b < w.heap.size→w'.heap[b]? =w.heap[b]?):
  w'.ownsRow 0 e sz v n xs:=by
 refine ⟨h.1,?_⟩
 rcases h.2 with hn | ⟨g,cap,cur,rfl,h1,h2,rest⟩
 ·exact .inl hn
 ·exact .inr ⟨g,cap,cur,rfl,h1,by rw [hb g rfl (ow h2)]; exact h2,rest⟩
theorem ObOK.keep {c c':C} {role role':Nat→Option Nat} (hle:Le c c') (id:Nat) (h:ObOK c role id) (e1:c'.ob id=c.ob id) (e2:c'.hd id=c.hd id)
  (e3:∀ b,role b=some id→b < c.w.heap.size→c'.w.heap[b]? =c.w.heap[b]? ∧c'.S b=c.S b∧role' b=some id):ObOK c' role' id:=by
 unfold ObOK at h ⊢
 rw [e1]
 cases ho:(c.ob id).o with
 | dead=>trivial
 | box cells=>
   rw [ho] at h
   obtain ⟨b,cs,et,h1,h2,h3,h4,h5,h6⟩:=h
   obtain ⟨a1,a2,a3⟩:=e3 b h6 (ow h2)
   exact ⟨b,cs,et,by rw [e2]; exact h1,by rw [a1]; exact h2,Rl.mono hle cells _ h3,h4,by rw [a2]; exact h5,a3⟩
 | row e size n cap cells=>
   rw [ho] at h
   obtain ⟨xs,h1,h2,h3,h4⟩:=h
   have lt:∀ b,(c.hd id).ownBlock=some b→b < c.w.heap.size:=fun b hb=>(h1.lt b hb).2
   refine ⟨xs,?_,RDl.mono hle.stab cells _ h2,?_,fun k hk=>by rw [e2]; exact h4 k hk⟩
   ·rw [e2]; exact cG h1 fun b hb hl=>(e3 b (h3 b hb).1 hl).1
   ·intro b hb
    rw [e2] at hb
    obtain ⟨a1,a2,a3⟩:=e3 b (h3 b hb).1 (lt b hb)
    exact ⟨a3,by rw [a2]; exact (h3 b hb).2⟩
 | res k x=>
   rw [ho] at h
   obtain ⟨vs,h1,h2,h3⟩:=h
   obtain ⟨g1,g2⟩:=h1.keep fun b hb=>(e3 b (h3 b hb).1 (h1.lt b hb)).1
   refine ⟨vs,by rw [e2]; exact g1,RDl.mono hle.stab _ _ h2,?_⟩
   rw [e2,g2]
   intro b hb
   obtain ⟨a1,a2,a3⟩:=e3 b (h3 b hb).1 (h1.lt b hb)
   exact ⟨a3,by rw [a2]; exact (h3 b hb).2⟩
theorem uY {c c':C} {role role':Nat→Option Nat} (hobs:∀ id,ObOK c role id) (id:Nat)
  (hS:∀ b,b < c.w.heap.size→role b ≠ some id→c'.S b=c.S b)
  (hheap:∀ b,b < c.w.heap.size→role b ≠ some id→c'.w.heap[b]? =c.w.heap[b]?)
  (hstab:∀ b o v,role b=some id→o < c.S b→c.w.cell? ⟨b,o,none⟩=some v→o < c'.S b∧c'.w.cell? ⟨b,o,none⟩=some v)
  (hrole:∀ b,b < c.w.heap.size→role' b=role b)
  (hob:∀ j,j ≠ id→c'.ob j=c.ob j∧c'.hd j=c.hd j)
  (hver:(c'.ob id).ver=(c.ob id).ver+1 ∨
    ((c'.ob id).ver=(c.ob id).ver∧(c'.ob id).o.isRow=(c.ob id).o.isRow∧(c'.ob id).o.isBox=(c.ob id).o.isBox∧c'.hd id=c.hd id))
  (os:c'.w.os=c.w.os) (tape:c'.w.tape=c.w.tape) (output:c'.w.output=c.w.output) (size:c.w.heap.size ≤ c'.w.heap.size)
  (hnew:Le c c'→ObOK c' role' id):Ext c c' role role':=by
 have hle:Le c c':=by
  refine ⟨?_,?_,?_⟩
  ·intro b o v ho hv
   by_cases hr:role b=some id
   ·exact hstab b o v hr ho hv
   ·have hlt:=World.block_lt_of_cell? c.w ⟨b,o,none⟩ hv
    refine ⟨by rw [hS b hlt hr]; exact ho,?_⟩
    rw [World.cell?_of_block (w:=c.w) (hheap b hlt hr)]; exact hv
  ·intro j
   by_cases hj:j=id
   ·subst hj; omega
   ·rw [(hob j hj).1]; exact Nat.le_refl _
  ·intro j e
   by_cases hj:j=id
   ·subst hj
    rcases hver with h | h
    ·omega
    ·exact h.2
   ·rw [(hob j hj).1]; exact ⟨rfl,rfl,(hob j hj).2⟩
 refine ⟨hle,os,tape,output,size,?_,hrole,?_⟩
 ·intro b hb hr
  exact ⟨hheap b hb (by rw [hr]; simp),hS b hb (by rw [hr]; simp)⟩
 ·intro j
  by_cases hj:j=id
  ·subst hj; exact hnew hle
  ·exact (hobs j).keep hle j (hob j hj).1 (hob j hj).2 fun b hb hl=>by
    have hne:role b ≠ some id:=by rw [hb]; simpa using hj
    exact ⟨hheap b hl hne,hS b hl hne,by rw [hrole b hl]; exact hb⟩
theorem zq {α:Type} (f:Nat→α) (n:Nat) (v:α):upd f n v n=v:=by simp [upd]
theorem zx {α:Type} (f:Nat→α) {n m:Nat} (v:α) (h:m ≠ n):upd f n v m=f m:=by simp [upd,h]
theorem Yq {c:C} {role:Nat→Option Nat} (hobs:∀ id,ObOK c role id) (id:Nat) (cells:List A) (cs:Array Value) (et:TypeId) (hc:Rl c cells cs.toList) (h1:cells.all one=true):
  Ext c ⟨upd c.S c.w.heap.size 0,c.w.alloc (.cells cs et),upd c.hd id (.pointer (some ⟨c.w.heap.size,0,none⟩)),upd c.ob id { ver:=(c.ob id).ver+1,o:= .box cells,leak:=false }⟩
   role (upd role c.w.heap.size (some id)):=by
 refine uY hobs id ?_ ?_ ?_ ?_ ?_ ?_ rfl rfl rfl (by simp) ?_
 ·exact fun b hb _=>zx _ _ (by omega)
 ·exact fun b hb _=>heap_alloc_old c.w _ hb
 ·intro b o v _ ho hv
  have hlt:=World.block_lt_of_cell? c.w ⟨b,o,none⟩ hv
  refine ⟨by show o < upd _ _ _ b; rw [zx _ _ (by simp at hlt; omega)]; exact ho,?_⟩
  show (c.w.alloc _).cell? _=_
  rw [World.cell?_alloc_lt c.w _ _ hlt]; exact hv
 ·exact fun b hb=>zx _ _ (by omega)
 ·exact fun j hj=>⟨zx _ _ hj,zx _ _ hj⟩
 ·left; simp [zq]
 ·intro hle
  show ObOK _ _ id
  unfold ObOK
  simp only [zq]
  exact ⟨c.w.heap.size,cs,et,rfl,heap_alloc_new c.w _,Rl.mono hle _ _ hc,h1,zq _ _ _,zq _ _ _⟩
theorem lz {c:C} {role:Nat→Option Nat} (hobs:∀ id,ObOK c role id) (id e sz n:Nat) (cap:Option Nat) (cells:List D) {w':World} {v:Value} {b0 k0:Nat} (xs:List Value)
  (hv:v= .slice (some ⟨b0,0,none⟩) n k0) (hb0:c.w.heap.size ≤ b0) (hg:c.w.grownBy w' none) (hown:w'.ownsRow 0 e sz v n xs) (hc:RDl c.S c.w cells xs) (hcap:∀ k,cap=some k→k0=k):
  Ext c ⟨upd c.S b0 0,w',upd c.hd id v,upd c.ob id { ver:=(c.ob id).ver+1,o:= .row e sz n cap cells,leak:=false }⟩ role (upd role b0 (some id)):=by
 have hh:∀ b,b < c.w.heap.size→w'.heap[b]? =c.w.heap[b]? :=fun b hb=>hg.block b hb (by simp)
 refine uY hobs id ?_ ?_ ?_ ?_ ?_ ?_ hg.os hg.tape hg.output hg.size ?_
 ·exact fun b hb _=>zx _ _ (by omega)
 ·exact fun b hb _=>hh b hb
 ·intro b o u _ ho hu
  have hlt:=World.block_lt_of_cell? c.w ⟨b,o,none⟩ hu
  refine ⟨by show o < upd _ _ _ b; rw [zx _ _ (by simp at hlt; omega)]; exact ho,?_⟩
  rw [World.cell?_of_block (w:=c.w) (hh b hlt)]; exact hu
 ·exact fun b hb=>zx _ _ (by omega)
 ·exact fun j hj=>⟨zx _ _ hj,zx _ _ hj⟩
 ·left; simp [zq]
 ·intro hle
  show ObOK _ _ id
  unfold ObOK
  simp only [zq]
  refine ⟨xs,hown,RDl.mono hle.stab _ _ hc,?_,?_⟩
  ·intro b hb
   rw [hv] at hb
   simp only [Value.ownBlock,Option.some.injEq] at hb
   subst hb
   exact ⟨zq _ _ _,by simp [zq]⟩
  ·intro k hk; rw [hv,hcap k hk]; exact ⟨_,rfl⟩
theorem cQ {c:C} {role:Nat→Option Nat} (hobs:∀ id,ObOK c role id) (id:Nat) {e sz n:Nat} {cap:Option Nat} {cells:List D} (ho:(c.ob id).o= .row e sz n cap cells):
  ∃ S',Ext c ⟨S',c.w,c.hd,upd c.ob id { c.ob id with leak:=true }⟩ role role∧∀ b,(c.hd id).ownBlock=some b→S' b=n * sz:=by
 obtain ⟨xs,h1,h2,h3,h4⟩:=x9 (hobs id) ho
 refine ⟨fun b=>if (c.hd id).ownBlock=some b then n * sz else c.S b,?_,fun b hb=>by simp [hb]⟩
 refine uY hobs id ?_ ?_ ?_ ?_ ?_ ?_ rfl rfl rfl (Nat.le_refl _) ?_
 ·intro b hb hr
  have:(c.hd id).ownBlock ≠ some b:=fun h=>hr (h3 b h).1
  simp [this]
 ·exact fun b hb _=>rfl
 ·intro b o v hr ho' hv
  refine ⟨?_,hv⟩
  show o < if _ then _ else _
  split
  ·rename_i hb
   have:=(h3 b hb).2
   rw [this] at ho'
   split at ho' <;> omega
  ·exact ho'
 ·exact fun b hb=>rfl
 ·exact fun j hj=>⟨zx _ _ hj,rfl⟩
 ·right; simp [zq]
 ·intro hle
  show ObOK _ _ id
  unfold ObOK
  simp only [zq,ho]
  refine ⟨xs,h1,RDl.mono hle.stab _ _ h2,?_,h4⟩
  intro b hb
  exact ⟨(h3 b hb).1,by simp [hb]⟩
theorem Ext.trans {c c' c'':C} {role role' role'':Nat→Option Nat} (h:Ext c c' role role') (h':Ext c' c'' role' role''):Ext c c'' role role'' where
 le:=h.le.trans h'.le
 os:=h'.os.trans h.os
 tape:=h'.tape.trans h.tape
 output:=h'.output.trans h.output
 size:=Nat.le_trans h.size h'.size
 heap b hb hr:=by
  have a:=h.heap b hb hr
  have hb':=Nat.lt_of_lt_of_le hb h.size
  have a':=h'.heap b hb' (by rw [h.role b hb]; exact hr)
  exact ⟨a'.1.trans a.1,a'.2.trans a.2⟩
 role b hb:=(h'.role b (Nat.lt_of_lt_of_le hb h.size)).trans (h.role b hb)
 obs:=h'.obs
theorem w4:∀ (ids:List Nat) {c:C} {role:Nat→Option Nat},(∀ id,ObOK c role id)→(∀ id ∈ ids,∃ e sz n cap cells,(c.ob id).o= .row e sz n cap cells)→
  ∃ S',Ext c ⟨S',c.w,c.hd,za c.ob (zl c.ob ids)⟩ role role∧(∀ id ∈ ids,∀ e sz n cap cells,(c.ob id).o= .row e sz n cap cells→∀ b,(c.hd id).ownBlock=some b→S' b=n * sz)
 | [],c,role,hobs,_=>⟨c.S,Ext.refl hobs,by simp⟩
 | id :: ids,c,role,hobs,hrow=>by
   obtain ⟨e,sz,n,cap,cells,ho⟩:=hrow id (by simp)
   obtain ⟨S1,x1,y1⟩:=cQ hobs id ho
   have e1:zl c.ob ids=zl (upd c.ob id { c.ob id with leak:=true }) ids:=by
    unfold zl
    apply List.map_congr_left
    intro j _
    by_cases hj:j=id
    ·subst hj; simp [zq]
    ·simp [zx _ _ hj]
   have hrow':∀ j ∈ ids,∃ e sz n cap cells,((upd c.ob id { c.ob id with leak:=true }) j).o= .row e sz n cap cells:=by
    intro j hj
    obtain ⟨e,sz,n,cap,cells,h⟩:=hrow j (by simp [hj])
    refine ⟨e,sz,n,cap,cells,?_⟩
    by_cases hji:j=id
    ·subst hji; simpa [zq] using h
    ·simpa [zx _ _ hji] using h
   obtain ⟨S2,x2,y2⟩:=w4 ids x1.obs hrow'
   refine ⟨S2,?_,?_⟩
   ·have:za c.ob (zl c.ob (id :: ids))=za (upd c.ob id { c.ob id with leak:=true }) (zl (upd c.ob id { c.ob id with leak:=true }) ids):=by
     rw [← e1]; rfl
    rw [this]
    exact x1.trans x2
   ·intro j hj e' sz' n' cap' cells' hoj b hb
    rcases List.mem_cons.1 hj with rfl | hj'
    ·rw [ho] at hoj
     injection hoj with a1 a2 a3 a4 a5
     subst a2; subst a3
     have hS1:=y1 b hb
     by_cases hin:j ∈ ids
     ·exact y2 j hin e sz n cap cells (by simp [zq,ho]) b hb
     ·
      obtain ⟨xs,h1,h2,h3,h4⟩:=x9 (x2.obs j) (e:=e) (size:=sz) (n:=n) (cap:=cap) (cells:=cells) (by
       show (za _ _ j).o=_
       have hup:∀ (l:List Nat) (f g:Nat→Ob),j ∉ l→za f (zl g l) j=f j:=by
        intro l
        induction l with
        | nil=>intro f g _; rfl
        | cons a l ih=>intro f g hn; simp only [zl,List.map_cons,za] at ih ⊢; simp only [List.mem_cons,not_or] at hn; rw [ih _ g hn.2]; exact zx _ _ hn.1
       rw [hup ids _ _ hin]; simp [zq,ho])
      have hlk:((za (upd c.ob j { c.ob j with leak:=true }) (zl (upd c.ob j { c.ob j with leak:=true }) ids)) j).leak=true:=by
       have hup:∀ (l:List Nat) (f g:Nat→Ob),j ∉ l→za f (zl g l) j=f j:=by
        intro l
        induction l with
        | nil=>intro f g _; rfl
        | cons a l ih=>intro f g hn; simp only [zl,List.map_cons,za] at ih ⊢; simp only [List.mem_cons,not_or] at hn; rw [ih _ g hn.2]; exact zx _ _ hn.1
       rw [hup ids _ _ hin]; simp [zq]
      have:=(h3 b hb).2
      simp only [hlk,if_true] at this
      exact this
    ·by_cases hji:j=id
     ·subst hji
      exact y2 j hj' e' sz' n' cap' cells' (by simp [zq,hoj]) b hb
     ·exact y2 j hj' e' sz' n' cap' cells' (by simp [zx _ _ hji,hoj]) b hb
end Go.Vm
set_option linter.unusedVariables false
set_option linter.unusedSectionVars false
set_option linter.unusedSimpArgs false
namespace Go.Vm
theorem jS {S:Nat→Nat} {w:World} {b:Nat}:∀ {cells:List D} {xs:List Value} (o:Nat),RDl S w cells xs→(∀ j v,xs[j]? =some v→w.cell? ⟨b,o+j,none⟩=some v)→
  o+cells.length ≤ S b→RDat S w cells b o
 | [],_,_,_,_,_=>trivial
 | x :: cells,xs,o,⟨v,r,e,hx,hr⟩,h,hS=>by
   subst e
   simp only [List.length_cons] at hS
   refine ⟨by omega,⟨v,by simpa using h 0 v (by simp),hx⟩,?_⟩
   refine jS (o+1) hr (fun j u hj=>?_) (by omega)
   have:=h (j+1) u (by simpa using hj)
   rwa [show o+1+j=o+(j+1) from by omega]
theorem xW {w:World} {e sz n:Nat} {v:Value} {xs:List Value} (h:w.ownsRow 0 e sz v n xs):∃ a k,v= .slice a n k∧n ≤ k∧k ≤ maxLen∧(a=none→n=0∧k=0)∧
  ∀ p,a=some p→p.spot=none∧p.off=0∧v.ownBlock=some p.block:=by
 rcases h.2 with ⟨rfl,rfl⟩ | ⟨g,cap,cur,rfl,_,hg,h1,h2,_⟩
 ·exact ⟨none,0,rfl,Nat.le_refl _,by decide,fun _=>⟨rfl,rfl⟩,by simp⟩
 ·exact ⟨_,_,rfl,h1,h2,by simp,by rintro p ⟨rfl⟩; exact ⟨rfl,rfl,rfl⟩⟩
theorem eG {S:Nat→Nat} {w:World} {e sz n:Nat} {v:Value} {xs:List Value} {cells:List D} (h:w.ownsRow 0 e sz v n xs) (hc:RDl S w cells xs)
  (hS:∀ b,v.ownBlock=some b→n * sz ≤ S b):RD S w (.lst n cells) v:=by
 obtain ⟨a,k,rfl,h1,h2,h3,h4⟩:=xW h
 have hlen:=hc.length
 refine ⟨a,k,rfl,h1,fun ha=>⟨(h3 ha).1,(h3 ha).2,?_⟩,?_⟩
 ·have:=h.1; rw [(h3 ha).1] at this; simp only [Nat.zero_mul] at this
  exact List.eq_nil_of_length_eq_zero (by omega)
 ·intro p hp
  obtain ⟨q1,q2,q3⟩:=h4 p hp
  refine ⟨.inl q1,?_⟩
  rw [q2]
  refine jS 0 hc ?_ ?_
  ·intro j u hj
   have:=h.cells q3 j u hj
   rw [Addr.add_mk] at this
   exact this
  ·have:=hS p.block q3; have:=h.1; omega
section
variable {c:C} {role:Nat→Option Nat} (hobs:∀ id,ObOK c role id)
include hobs
theorem bU {a:A} {v:Value} {x:D} {ids:List Nat} (h:yC c.ob a=some (x,ids)) (hr:R c a v):
  (∀ id ∈ ids,∃ e sz n cap cells,(c.ob id).o= .row e sz n cap cells)∧
  ∀ S',Stab c.S c.w S' c.w→(∀ id ∈ ids,∀ e sz n cap cells,(c.ob id).o= .row e sz n cap cells→∀ b,(c.hd id).ownBlock=some b→S' b=n * sz)→RD S' c.w x v:=by
 unfold yC at h
 split at h
 ·simp only [Option.some.injEq,Prod.mk.injEq] at h
  obtain ⟨rfl,rfl⟩:=h
  exact ⟨by simp,fun S' hS _=>RD.mono hS _ _ hr⟩
 ·simp only [Option.some.injEq,Prod.mk.injEq] at h
  obtain ⟨rfl,rfl⟩:=h
  simp only [R] at hr
  subst hr
  exact ⟨by simp,fun S' hS _=>⟨none,0,rfl,Nat.le_refl _,fun _=>⟨rfl,rfl,rfl⟩,by simp⟩⟩
 ·rename_i id ver
  split at h
  ·rename_i e sz n cap cells ho
   split at h
   ·rename_i hv
    simp only [Option.some.injEq,Prod.mk.injEq] at h
    obtain ⟨rfl,rfl⟩:=h
    refine ⟨by simpa using ⟨e,sz,n,cap,cells,ho⟩,?_⟩
    intro S' hS hb
    have e1:=hr.2.2 hv.symm (by rw [ho]; rfl)
    obtain ⟨xs,h1,h2,h3,h4⟩:=x9 (hobs id) ho
    rw [e1]
    exact eG h1 (RDl.mono hS _ _ h2) fun b hb'=>Nat.le_of_eq (hb id (by simp) e sz n cap cells ho b hb').symm
   ·cases h
  ·cases h
 ·cases h
theorem uM:∀ {as:List A} {vs:List Value} {xs:List D} {ids:List Nat},zZ c.ob as=some (xs,ids)→Rl c as vs→
  (∀ id ∈ ids,∃ e sz n cap cells,(c.ob id).o= .row e sz n cap cells)∧
  ∀ S',Stab c.S c.w S' c.w→(∀ id ∈ ids,∀ e sz n cap cells,(c.ob id).o= .row e sz n cap cells→∀ b,(c.hd id).ownBlock=some b→S' b=n * sz)→RDl S' c.w xs vs
 | [],vs,xs,ids,h,hr=>by
   simp only [zZ,Option.some.injEq,Prod.mk.injEq] at h
   obtain ⟨rfl,rfl⟩:=h
   exact ⟨by simp,fun _ _ _=>hr⟩
 | a :: as,vs,xs,ids,h,⟨v,r,e,hv,hr⟩=>by
   simp only [zZ,Option.bind_eq_some_iff,Option.map_eq_some_iff] at h
   obtain ⟨⟨x,l⟩,h1,⟨ys,ls⟩,h2,h3⟩:=h
   simp only [Prod.mk.injEq] at h3
   obtain ⟨rfl,rfl⟩:=h3
   obtain ⟨p1,p2⟩:=bU hobs h1 hv
   obtain ⟨q1,q2⟩:=uM h2 hr
   refine ⟨?_,?_⟩
   ·intro id hid
    rcases List.mem_append.1 hid with h | h
    ·exact p1 id h
    ·exact q1 id h
   ·intro S' hS hb
    exact ⟨v,r,e,p2 S' hS fun id hid=>hb id (List.mem_append.2 (.inl hid)),q2 S' hS fun id hid=>hb id (List.mem_append.2 (.inr hid))⟩
theorem Ql {a:A} {x:D} {ids:List Nat} {v:Value} (h:oE c.ob a=some (x,ids)) (hr:R c a v):
  (∀ id ∈ ids,∃ e sz n cap cells,(c.ob id).o= .row e sz n cap cells)∧
  ∀ S',Stab c.S c.w S' c.w→(∀ id ∈ ids,∀ e sz n cap cells,(c.ob id).o= .row e sz n cap cells→∀ b,(c.hd id).ownBlock=some b→S' b=n * sz)→RD S' c.w x v:=by
 cases a with
 | nil=>
   simp only [oE,Option.some.injEq,Prod.mk.injEq] at h
   obtain ⟨rfl,rfl⟩:=h
   exact ⟨by simp,fun _ _ _=>hr⟩
 | _=>simp only [oE] at h; exact bU hobs h hr
theorem cg:∀ {as:List A} {vs:List Value} {xs:List D} {ids:List Nat},s8 c.ob as=some (xs,ids)→Rl c as vs→
  (∀ id ∈ ids,∃ e sz n cap cells,(c.ob id).o= .row e sz n cap cells)∧
  ∀ S',Stab c.S c.w S' c.w→(∀ id ∈ ids,∀ e sz n cap cells,(c.ob id).o= .row e sz n cap cells→∀ b,(c.hd id).ownBlock=some b→S' b=n * sz)→RDl S' c.w xs vs
 | [],vs,xs,ids,h,hr=>by
   simp only [s8,Option.some.injEq,Prod.mk.injEq] at h
   obtain ⟨rfl,rfl⟩:=h
   exact ⟨by simp,fun _ _ _=>hr⟩
 | a :: as,vs,xs,ids,h,⟨v,r,e,hv,hr⟩=>by
   simp only [s8,Option.bind_eq_some_iff,Option.map_eq_some_iff] at h
   obtain ⟨⟨x,l⟩,h1,⟨ys,ls⟩,h2,h3⟩:=h
   simp only [Prod.mk.injEq] at h3
   obtain ⟨rfl,rfl⟩:=h3
   obtain ⟨p1,p2⟩:=Ql hobs h1 hv
   obtain ⟨q1,q2⟩:=cg h2 hr
   refine ⟨?_,?_⟩
   ·intro id hid
    rcases List.mem_append.1 hid with h | h
    ·exact p1 id h
    ·exact q1 id h
   ·intro S' hS hb
    exact ⟨v,r,e,p2 S' hS fun id hid=>hb id (List.mem_append.2 (.inl hid)),q2 S' hS fun id hid=>hb id (List.mem_append.2 (.inr hid))⟩
end
section
variable {P:Program} {o:Oper} {act:Act} {c:C} {role:Nat→Option Nat} {st:St}
variable (hs:∀ n,R c (st.slot n) (act.tmps.getD n undef)) (hobs:∀ id,ObOK c role id)
include hs hobs
theorem bk {args:Array Operand} {tys:Array TypeId} {t:TypeId} {str:Bool} {u:TypeDesc} {x:Operand} {sa:SA} {out:Out} (ho:o.op= .call { callee:= .builtin .len,args:=args,argTypes:=tys })
  (ha:args.toList=[x]) (hty:tys.toList=[t]) (ht:P.underlying t=some u) (hu:(u= .string∧str=true) ∨ ((∃ e,u= .slice e)∧str=false)) (hx:zQ x=some sa)
  (he:lc c.ob str [st.get sa]=some out):Does P o act c role out:=by
 obtain rfl:args=#[x]:=by have:=congrArg List.toArray ha; simpa using this
 obtain rfl:tys=#[t]:=by have:=congrArg List.toArray hty; simpa using this
 have hr:=yn hs hx
 generalize st.get sa=a at he hr
 have h1:∀ s:ByteArray,act.eval x= .string s→u= .string→(execOp act.eval o).run P c.w= .ok (.value (.int .i64 s.size)) c.w:=by
  rintro s hv rfl
  simp [execOp,ho,resolve,invoke,builtin,hv,Builtin.len_,zS ht,goInt]
 have h2:∀ a n k,act.eval x= .slice a n k→(∃ e,u= .slice e)→(execOp act.eval o).run P c.w= .ok (.value (.int .i64 n)) c.w:=by
  rintro a n k hv ⟨e,rfl⟩
  simp [execOp,ho,resolve,invoke,builtin,hv,Builtin.len_,zS ht,goInt]
 unfold lc at he
 split at he <;> rename_i heq
 ·simp only [List.cons.injEq,and_true] at heq; subst heq
  split at he
  ·rename_i hst
   rw [zr he]
   exact Does.pure hobs (h1 _ hr (by rcases hu with h | h <;> simp_all)) rfl
  ·cases he
 ·simp only [List.cons.injEq,and_true] at heq; subst heq
  split at he
  ·cases he
  ·rename_i hst
   rw [zr he]
   obtain ⟨a,k,e,_⟩:=hr
   exact Does.pure hobs (h2 _ _ _ e (by rcases hu with h | h <;> simp_all)) rfl
 ·simp only [List.cons.injEq,and_true] at heq; subst heq
  split at he
  ·cases he
  ·rename_i hst
   rw [zr he]
   exact Does.pure hobs (h2 _ _ _ hr (by rcases hu with h | h <;> simp_all)) rfl
 ·rename_i id ver
  simp only [List.cons.injEq,and_true] at heq; subst heq
  split at he
  ·cases he
  ·rename_i hst
   simp only [Option.bind_eq_some_iff] at he
   obtain ⟨⟨ze,zs,zn,zc,cells⟩,hb,he⟩:=he
   rw [zr he]
   obtain ⟨e1,xs,h3,_⟩:=pR hs hobs hr hb
   obtain ⟨a,k,e2,_⟩:=xW h3
   exact Does.pure hobs (h2 _ _ _ (e1.trans e2) (by rcases hu with h | h <;> simp_all)) rfl
 ·cases he
theorem TN {args:Array Operand} {tys:Array TypeId} {t e:TypeId} {x:Operand} {sa:SA} {out:Out} (ho:o.op= .call { callee:= .builtin .cap,args:=args,argTypes:=tys })
  (ha:args.toList=[x]) (hty:tys.toList=[t]) (ht:P.underlying t=some (.slice e)) (hx:zQ x=some sa)
  (he:jl c.ob [st.get sa]=some out):Does P o act c role out:=by
 obtain rfl:args=#[x]:=by have:=congrArg List.toArray ha; simpa using this
 obtain rfl:tys=#[t]:=by have:=congrArg List.toArray hty; simpa using this
 have hr:=yn hs hx
 generalize st.get sa=a at he hr
 unfold jl at he
 split at he <;> rename_i heq
 ·simp only [List.cons.injEq,and_true] at heq; subst heq
  rw [zr he]
  simp only [R] at hr
  refine Does.pure hobs (v:= .int .i64 0) ?_ rfl
  simp [execOp,ho,resolve,invoke,builtin,hr,Builtin.cap_,zS ht,goInt]
 ·rename_i id ver
  simp only [List.cons.injEq,and_true] at heq; subst heq
  simp only [Option.bind_eq_some_iff] at he
  obtain ⟨⟨ze,zs,zn,zc,cells⟩,hb,k,hk,he⟩:=he
  rw [zr he]
  obtain ⟨e1,xs,h3,_,_,h4⟩:=pR hs hobs hr hb
  obtain ⟨a,e2⟩:=h4 k hk
  refine Does.pure hobs (v:= .int .i64 k) ?_ rfl
  simp [execOp,ho,resolve,invoke,builtin,e1,e2,Builtin.cap_,zS ht,goInt]
 ·cases he
theorem Qd {t e:TypeId} {sz:Nat} {x y:Operand} {l:List SA} {out:Out} (ho:o.op= .indexAddr t x y) (ht:P.underlying t=some (.slice e)) (hsz:xK P e=some sz)
  (hl:zD [x,y]=some l) (he:lA c.ob sz (l.map st.get)=some out):Does P o act c role out:=by
 obtain ⟨a,b,rfl,h1,h2⟩:=uq hs hobs hl
 simp only [List.map_cons,List.map_nil] at he
 have hrun:∀ (b off n cap:Nat) k (i:Int),act.eval x= .slice (some ⟨b,off,none⟩) n cap→act.eval y= .int k i→0 ≤ i→i < n→
   (execOp act.eval o).run P c.w= .ok (.value (.pointer (some ⟨b,off+i.toNat * sz,none⟩))) c.w:=by
  intro b off n cap k i hx hy h0 h1
  simp [execOp,ho,hx,hy,Instr.indexAt,asIntOf,zS ht,h0,h1,wv hsz,Addr.add_mk]
 unfold lA at he
 split at he <;> rename_i heq
 ·rename_i n cells k i
  simp only [List.cons.injEq,and_true] at heq
  obtain ⟨e1,e2⟩:=heq
  rw [e1] at h1; rw [e2] at h2
  split at he
  ·rename_i hi
   rw [zr he]
   obtain ⟨a,cap,e3,e4,e5,e6⟩:=h1
   cases a with
   | none=>have:=e5 rfl; omega
   | some p=>
     obtain ⟨q1,q2⟩:=e6 p rfl
     replace q1:=q1.resolve_right (by rintro ⟨z,_⟩; omega)
     obtain ⟨pb,po,ps⟩:=p
     simp only at q1 q2
     subst q1
     exact Does.pure hobs (hrun pb po n cap k i e3 h2 hi.1 hi.2.1) ⟨pb,_,rfl,q2.drop _⟩
  ·cases he
 ·rename_i id ver k i
  simp only [List.cons.injEq,and_true] at heq
  obtain ⟨e1,e2⟩:=heq
  rw [e1] at h1; rw [e2] at h2
  simp only [Option.bind_eq_some_iff] at he
  obtain ⟨⟨ze,zs,zn,zc,cells⟩,hb,he⟩:=he
  simp only at he
  split at he
  ·rename_i hi
   rw [zr he]
   obtain ⟨e3,xs,h3,_⟩:=pR hs hobs h1 hb
   obtain ⟨a,cap,e4,_,_,e5,e6⟩:=xW h3
   cases a with
   | none=>have:=e5 rfl; omega
   | some p=>
     obtain ⟨q1,q2,q3⟩:=e6 p rfl
     obtain ⟨pb,po,ps⟩:=p
     simp only at q1 q2
     subst q1; subst q2
     have:=hrun pb 0 zn cap k i (e3.trans e4) h2 hi.1 hi.2
     rw [Nat.zero_add] at this
     exact Does.pure hobs this ⟨rfl,h1.2.1,fun _ _=>⟨pb,zn,cap,e4,rfl⟩⟩
  ·cases he
 ·cases he
theorem Ue {x:Operand} {sa:SA} {out:Out} {Γ:Ctx} {d:Nat} (ho:o.op= .panic x) (hx:zQ x=some sa) (he:eval Γ c.ob d .pan [st.get sa]=some out):Does P o act c role out:=by
 have hr:=yn hs hx
 generalize st.get sa=a at he hr
 simp only [eval] at he
 split at he <;> rename_i heq
 ·simp only [List.cons.injEq,and_true] at heq; subst heq
  simp only [Option.some.injEq] at he; subst he
  obtain ⟨u,e,H⟩:=hr
  exact ⟨_,by simp [execOp,ho,e,Instr.panic],rfl,u,rfl,H⟩
 ·simp only [List.cons.injEq,and_true] at heq; subst heq
  simp only [Option.some.injEq] at he; subst he
  obtain ⟨u,e,H⟩:=hr
  exact ⟨_,by simp [execOp,ho,e,Instr.panic],rfl,u,rfl,H⟩
 ·cases he
theorem Tt {t:TypeId} {u:TypeDesc} {x:Operand} {sa:SA} {out:Out} {Γ:Ctx} {d:Nat} (ho:o.op= .makeInterface t x) (ht:P.underlying t=some u) (hu:∀ ms,u ≠ .interface ms)
  (hx:zQ x=some sa) (he:eval Γ c.ob d (.mkI t) [st.get sa]=some out):Does P o act c role out:=by
 have hr:=yn hs hx
 generalize st.get sa=a at he hr
 have hrun:(execOp act.eval o).run P c.w= .ok (.value (.iface t (act.eval x))) c.w:=by
  simp only [execOp,ho,Instr.makeInterface,Sem.run_bind,zS ht,Result.andThen_ok]
  cases u <;> simp_all
 simp only [eval] at he
 split at he <;> rename_i heq
 ·simp only [List.cons.injEq,and_true] at heq; subst heq
  rw [zr he]
  exact Does.pure hobs hrun ⟨_,rfl,hr⟩
 ·simp only [List.cons.injEq,and_true] at heq; subst heq
  obtain ⟨⟨xs,ls⟩,hxs,he⟩:=Option.bind_eq_some_iff.1 he
  cases he
  obtain ⟨vs,e,H⟩:=hr
  obtain ⟨p1,p2⟩:=uM hobs hxs H
  obtain ⟨S',x1,x2⟩:=w4 ls hobs p1
  refine ⟨_,_,S',c.w,c.hd,role,hrun,.inl rfl,x1,?_⟩
  exact ⟨vs,by rw [e],p2 S' x1.le.stab x2⟩
 ·cases he
end
end Go.Vm
set_option linter.unusedVariables false
set_option linter.unusedSectionVars false
set_option linter.unusedSimpArgs false
namespace Go.Vm
theorem jp {P:Program} {c:C} {w:World} {ρ:Operand→Value} {n cap:Nat} {lo hi:Option Operand} {bs:List A} {l h:Nat} {sl:Bool} (hc:ub n lo.isSome hi.isSome bs=some (l,h))
  (hb:Rl c bs ((lo.toList++hi.toList).map ρ)) (hn:n ≤ cap):
  (Instr.sliceBounds sl n cap (lo.map ρ) (hi.map ρ) none).run P w= .ok (l,h,cap) w∧l ≤ h∧h ≤ n:=by
 have key:∀ (x:Value) (y:Nat) (code:BoundsCode) (k:IntKind) (i:Int),x= .int k i→0 ≤ i→i ≤ y→(Instr.sliceBound x y code).run P w= .ok i.toNat w:=by
  rintro _ y code k i rfl h0 h1
  simp [Instr.sliceBound,asIntOf,h0,h1]
 cases lo with
 | none=>
   cases hi with
   | none=>
     simp only [Option.toList_none,List.append_nil,List.map_nil] at hb
     have:bs=[]:=by cases bs with | nil=>rfl | cons a r=>obtain ⟨v,s,e,_⟩:=hb; cases e
     subst this
     simp [ub] at hc
     obtain ⟨rfl,rfl⟩:=hc
     exact ⟨by simp [Instr.sliceBounds],Nat.zero_le _,Nat.le_refl _⟩
   | some y=>
     simp only [Option.toList_none,Option.toList_some,List.nil_append,List.map_cons,List.map_nil] at hb
     cases bs with
     | nil=>simp [Rl] at hb
     | cons a r=>
       obtain ⟨v,s,e,ha,hr⟩:=hb
       injection e with e1 e2
       subst e1; subst e2
       cases r with
       | cons a' r'=>obtain ⟨v,s,e,_⟩:=hr; cases e
       | nil=>
         unfold ub at hc
         split at hc <;> rename_i heq
         ·simp at heq
         ·simp only [List.cons.injEq,and_true] at heq; subst heq
          simp at hc
          obtain ⟨⟨h0,h1⟩,rfl,rfl⟩:=hc
          simp only [R,RD] at ha
          refine ⟨?_,Nat.zero_le _,by omega⟩
          simp [Instr.sliceBounds,key _ _ _ _ _ ha h0 (show _ ≤ (cap:Int) by omega)]
         ·simp at heq
         ·cases hc
 | some x=>
   cases hi with
   | none=>
     simp only [Option.toList_none,Option.toList_some,List.append_nil,List.map_cons,List.map_nil] at hb
     cases bs with
     | nil=>simp [Rl] at hb
     | cons a r=>
       obtain ⟨v,s,e,ha,hr⟩:=hb
       injection e with e1 e2
       subst e1; subst e2
       cases r with
       | cons a' r'=>obtain ⟨v,s,e,_⟩:=hr; cases e
       | nil=>
         unfold ub at hc
         split at hc <;> rename_i heq
         ·simp at heq
         ·simp only [List.cons.injEq,and_true] at heq; subst heq
          simp at hc
          obtain ⟨⟨h0,h1⟩,rfl,rfl⟩:=hc
          simp only [R,RD] at ha
          refine ⟨?_,by omega,Nat.le_refl _⟩
          simp [Instr.sliceBounds,key _ _ _ _ _ ha h0 h1]
         ·simp at heq
         ·cases hc
   | some y=>
     simp only [Option.toList_some,List.cons_append,List.nil_append,List.map_cons,List.map_nil] at hb
     cases bs with
     | nil=>simp [Rl] at hb
     | cons a r=>
       obtain ⟨v,s,e,ha,hr⟩:=hb
       injection e with e1 e2
       subst e1; subst e2
       cases r with
       | nil=>simp [Rl] at hr
       | cons a' r'=>
         obtain ⟨v,s,e,ha',hr⟩:=hr
         injection e with e1 e2
         subst e1; subst e2
         cases r' with
         | cons a' r'=>obtain ⟨v,s,e,_⟩:=hr; cases e
         | nil=>
           unfold ub at hc
           split at hc
           ·rename_i k1 i1 k2 i2 heq
            simp only [List.cons.injEq,and_true] at heq
            obtain ⟨rfl,rfl⟩:=heq
            simp at hc
            obtain ⟨⟨h0,h1,h2⟩,rfl,rfl⟩:=hc
            simp only [R,RD] at ha ha'
            refine ⟨?_,by omega,by omega⟩
            have q1:=fun code=>key _ cap code k2 i2 ha' (by omega) (by omega)
            have q2:=fun code=>key _ i2.toNat code k1 i1 ha h0 (by omega)
            simp [Instr.sliceBounds,q1,q2]
           ·rename_i heq; simp at heq
           ·rename_i heq; simp at heq
           ·cases hc
section
variable {P:Program} {o:Oper} {act:Act} {c:C} {role:Nat→Option Nat} {st:St}
variable (hs:∀ n,R c (st.slot n) (act.tmps.getD n undef)) (hobs:∀ id,ObOK c role id)
include hs hobs
theorem j7 {t:TypeId} {u:TypeDesc} {str:Bool} {sz:Nat} {x:Operand} {lo hi:Option Operand} {l:List SA} {out:Out} (ho:o.op= .slice t x lo hi none) (ht:P.underlying t=some u)
  (hu:(u= .string∧str=true) ∨ ((∃ e,u= .slice e∧xK P e=some sz)∧str=false)) (hl:zD ([x]++lo.toList++hi.toList)=some l)
  (he:tk c.ob str sz lo.isSome hi.isSome (l.map st.get)=some out):Does P o act c role out:=by
 have hR:=qm hs hl
 generalize l.map st.get=as at he hR
 simp only [List.cons_append,List.nil_append,List.map_cons] at hR
 have hlist:∀ (a:Option Addr) (n cap l h:Nat),act.eval x= .slice a n cap→str=false→(Instr.sliceBounds true n cap (lo.map act.eval) (hi.map act.eval) none).run P c.w= .ok (l,h,cap) c.w→
   (execOp act.eval o).run P c.w= .ok (.value (.slice (if cap=l then a else a.map (·.add (l * sz))) (h - l) (cap - l))) c.w:=by
  intro a n cap l h hv hst hb
  obtain ⟨⟨e,rfl,hsz⟩,_⟩:(∃ e,u= .slice e∧xK P e=some sz)∧str=false:=by rcases hu with h | h; simp_all; exact h
  simp [execOp,ho,Instr.sliceAt,zS ht,Instr.slice,hv,hb,wv hsz]
 have hRD:∀ (S:Nat→Nat) (a:Option Addr) (n cap l h:Nat) (cells:List D),RD S c.w (.lst n cells) (.slice a n cap)→l ≤ h→h ≤ n→n ≤ cap→(l * sz ≤ cells.length)→
   RD S c.w (.lst (h - l) ((cells.drop (l * sz)).take ((h - l) * sz))) (.slice (if cap=l then a else a.map (·.add (l * sz))) (h - l) (cap - l)):=by
  rintro S a n cap l h cells ⟨a',cap',e1,e2,e3,e4⟩ h1 h2 h3 h4
  injection e1 with q1 q2 q3
  subst q1; subst q3
  refine ⟨_,_,rfl,by omega,?_,?_⟩
  ·intro hn
   split at hn
   ·have:=e3 hn; exact ⟨by omega,by omega,by rw [this.2.2]; simp⟩
   ·have:=e3 (by simpa using hn); exact ⟨by omega,by omega,by rw [this.2.2]; simp⟩
  ·intro p hp
   split at hp
   ·rename_i hcl
    have h0:h - l=0:=by omega
    refine ⟨.inr ⟨by omega,by rw [h0]; simp⟩,?_⟩
    rw [h0]; simp [RDat]
   ·cases a with
    | none=>simp at hp
    | some q=>
      simp only [Option.map_some,Option.some.injEq] at hp
      subst hp
      obtain ⟨w1,w2⟩:=e4 q rfl
      rcases w1 with w1 | ⟨w1,w1'⟩
      ·obtain ⟨qb,qo,qs⟩:=q
       simp only at w1 w2
       subst w1
       rw [Addr.add_mk]
       exact ⟨.inl rfl,(w2.drop _).take _⟩
      ·subst w1'
       exact ⟨.inr ⟨by omega,by simp⟩,by simp [RDat]⟩
 unfold tk at he
 split at he
 ·rename_i s bs
  obtain ⟨v,r,e,hx,hr⟩:=hR
  injection e with e1 e2
  subst e1; subst e2
  simp only [R,RD] at hx
  split at he
  ·rename_i hst
   simp only [Option.bind_eq_some_iff] at he
   obtain ⟨⟨l,h⟩,hc,he⟩:=he
   rw [zr he]
   obtain ⟨hb,_⟩:=jp (P:=P) (w:=c.w) (sl:=false) hc hr (Nat.le_refl _)
   obtain rfl:u= .string:=by rcases hu with h | h; exact h.1; simp_all
   refine Does.pure hobs (v:= .string (s.extract l h)) ?_ rfl
   simp [execOp,ho,Instr.sliceAt,zS ht,Instr.slice,hx,hb]
  ·cases he
 ·rename_i n cells bs
  obtain ⟨v,r,e,hx,hr⟩:=hR
  injection e with e1 e2
  subst e1; subst e2
  split at he
  ·cases he
  ·rename_i hst
   simp only [Option.bind_eq_some_iff] at he
   obtain ⟨⟨l,h⟩,hc,he⟩:=he
   simp only at he
   split at he
   ·rename_i hlen
    rw [zr he]
    obtain ⟨a,cap,e3,e4,e5,e6⟩:=id hx
    obtain ⟨hb,q1,q2⟩:=jp (P:=P) (w:=c.w) (sl:=true) hc hr e4
    have hx':RD c.S c.w (.lst n cells) (.slice a n cap):=by rw [← e3]; exact hx
    exact Does.pure hobs (hlist a n cap l h e3 (by simpa using hst) hb) (hRD c.S a n cap l h cells hx' q1 q2 e4 hlen)
   ·cases he
 ·rename_i id ver bs
  obtain ⟨v,r,e,hx,hr⟩:=hR
  injection e with e1 e2
  subst e1; subst e2
  split at he
  ·cases he
  ·rename_i hst
   simp only [Option.bind_eq_some_iff] at he
   obtain ⟨⟨ze,zs,n,zc,cells⟩,hrow,he⟩:=he
   simp only at he
   split at he
   ·rename_i hzs
    subst hzs
    simp only [Option.bind_eq_some_iff] at he
    obtain ⟨⟨l,h⟩,hc,he⟩:=he
    simp only [Option.some.injEq] at he
    subst he
    obtain ⟨e1,xs,h3,h4,h5,h6⟩:=pR hs hobs hx hrow
    obtain ⟨a,cap,e2,e4,_⟩:=xW h3
    obtain ⟨hb,q1,q2⟩:=jp (P:=P) (w:=c.w) (sl:=true) hc hr e4
    have ho1:=(xQ hrow).1
    obtain ⟨S',x1,x2⟩:=cQ hobs id ho1
    have hle:=x1.le.stab
    have hRDrow:RD S' c.w (.lst n cells) (c.hd id):=eG h3 (RDl.mono hle _ _ h4) fun b hb'=>Nat.le_of_eq (x2 b hb').symm
    have hlen:l * zs ≤ cells.length:=by
     have:=h3.1; have:=h4.length
     have:l * zs ≤ n * zs:=Nat.mul_le_mul_right _ (by omega)
     omega
    refine ⟨_,_,S',c.w,c.hd,role,hlist a n cap l h (e1.trans e2) (by simpa using hst) hb,.inl rfl,x1,?_⟩
    exact hRD S' a n cap l h cells (by rw [← e2]; exact hRDrow) q1 q2 e4 hlen
   ·cases he
 ·cases he
end
end Go.Vm
