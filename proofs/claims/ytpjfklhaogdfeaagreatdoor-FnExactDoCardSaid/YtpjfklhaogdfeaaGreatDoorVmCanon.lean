/- The head of a loop: what is kept is there under its new name. -/
import Derived.Test.YtpjfklhaogdfeaaGreatDoorVmRun
set_option linter.unusedVariables false
set_option linter.unusedSectionVars false
set_option linter.unusedSimpArgs false
namespace Go.Vm
variable [Gl]
theorem nA:∀ {m:List (Nat×Nat)} {i j:Nat},vS m i=some j→(i,j) ∈ m
 | [],_,_,h=>by cases h
 | (a,b) :: m,i,j,h=>by
   simp only [vS] at h
   split at h
   ·rename_i e; cases h; subst e; simp
   ·exact List.mem_cons_of_mem _ (nA h)
theorem od {x:Nat} {l:List Nat} (h:zF (x :: l)=true):x ∉ l∧zF l=true:=by
 simp only [zF,Bool.and_eq_true,Bool.not_eq_true',List.any_eq_false,beq_iff_eq] at h
 exact ⟨fun hx=>h.1 x hx rfl,h.2⟩
theorem kQ:∀ {m:List (Nat×Nat)} {i j:Nat},zF (m.map (·.1))=true→(i,j) ∈ m→vS m i=some j
 | [],_,_,_,h=>by cases h
 | (a,b) :: m,i,j,hd,h=>by
   obtain ⟨h1,h2⟩:=od hd
   simp only [vS]
   rcases List.mem_cons.mp h with e | h'
   ·cases e; simp
   ·rw [if_neg]
    ·exact kQ h2 h'
    ·rintro rfl; exact h1 (List.mem_map.mpr ⟨_,h',rfl⟩)
def dQ:List (Nat×Nat)→Nat→Option Nat
 | [],_=>none
 | (i,j) :: r,n=>if n=j then some i else dQ r n
theorem kE:∀ {m:List (Nat×Nat)} {i j:Nat},zF (m.map (·.2))=true→(i,j) ∈ m→dQ m j=some i
 | [],_,_,_,h=>by cases h
 | (a,b) :: m,i,j,hd,h=>by
   obtain ⟨h1,h2⟩:=od hd
   simp only [dQ]
   rcases List.mem_cons.mp h with e | h'
   ·cases e; simp
   ·rw [if_neg]
    ·exact kE h2 h'
    ·rintro rfl; exact h1 (List.mem_map.mpr ⟨_,h',rfl⟩)
theorem kF (f:Nat×Nat→Ob):∀ {m:List (Nat×Nat)} {i j:Nat},zF (m.map (·.2))=true→(i,j) ∈ m→zt (m.map fun p=>(p.2,f p)) j=f (i,j)
 | [],_,_,_,h=>by cases h
 | (a,b) :: m,i,j,hd,h=>by
   obtain ⟨h1,h2⟩:=od hd
   simp only [List.map_cons,zt]
   rcases List.mem_cons.mp h with e | h'
   ·cases e; simp
   ·rw [if_neg]
    ·exact kF f h2 h'
    ·rintro rfl; exact h1 (List.mem_map.mpr ⟨_,h',rfl⟩)
theorem cm (f:Nat×Nat→Ob):∀ (m:List (Nat×Nat)) (j:Nat),zt (m.map fun p=>(p.2,f p)) j={} ∨ ∃ i,(i,j) ∈ m
 | [],_=> .inl rfl
 | (a,b) :: m,j=>by
   simp only [List.map_cons,zt]
   by_cases e:j=b
   ·subst e; exact .inr ⟨a,by simp⟩
   ·rw [if_neg e]
    exact (cm f m j).imp id fun ⟨i,h⟩=>⟨i,List.mem_cons_of_mem _ h⟩
section
variable {S:Nat→Nat} {w:World} {hd:Nat→Value} {ob:Nat→Ob} {m:List (Nat×Nat)}
 (h1:zF (m.map (·.1))=true) (h2:zF (m.map (·.2))=true)
def oG (m:List (Nat×Nat)) (ob:Nat→Ob):Nat→Ob:=zt (m.map fun p=>(p.2,{ ver:=1,o:=rD m ob (ob p.1).o,leak:=(ob p.1).leak }))
def oH (m:List (Nat×Nat)) (hd:Nat→Value) (j:Nat):Value:=hd ((dQ m j).getD j)
include h2 in
theorem ol {i j:Nat} (h:(i,j) ∈ m):oG m ob j={ ver:=1,o:=rD m ob (ob i).o,leak:=(ob i).leak }:=
 kF (fun p=>{ ver:=1,o:=rD m ob (ob p.1).o,leak:=(ob p.1).leak }) h2 h
include h2 in
theorem oz {i j:Nat} (h:(i,j) ∈ m):oH m hd j=hd i:=by
 simp only [oH,kE h2 h,Option.getD_some]
theorem Xh {o:O}:(rD m ob o).isRow=o.isRow:=by cases o <;> rfl
theorem YW {o:O}:(rD m ob o).isBox=o.isBox:=by cases o <;> rfl
include h1 h2
mutual
theorem R.ren:∀ (a:A) (v:Value),R ⟨S,w,hd,ob⟩ a v→R ⟨S,w,oH m hd,oG m ob⟩ (uH m ob a) v
 | .undef,_,_=>trivial
 | .d x,v,H=>H
 | .nil,_,H=>H
 | .row id ver,v,⟨a1,a2,a3⟩=>by
   simp only [uH]
   split
   ·rename_i hv
    split
    ·rename_i j hj
     have hm:=nA hj
     simp only [R,ol h2 hm,oz h2 hm,Xh]
     exact ⟨a1,Nat.le_refl _,fun _ f=>a3 hv.symm f⟩
    ·trivial
   ·trivial
 | .adr id ver off,v,⟨a1,a2,a3⟩=>by
   simp only [uH]
   split
   ·rename_i hv
    split
    ·rename_i j hj
     have hm:=nA hj
     simp only [R,ol h2 hm,oz h2 hm,YW]
     exact ⟨a1,Nat.le_refl _,fun _ f=>a3 hv.symm f⟩
    ·trivial
   ·trivial
 | .rad id ver off,v,_=>trivial
 | .vw ..,v,_=>trivial
 | .cp cs,v,H=>H
 | .agg cs,v,⟨vs,e,H⟩=>⟨vs,e,Rl.ren cs _ H⟩
 | .tup cs,v,⟨vs,e,H⟩=>⟨vs,e,Rl.ren cs _ H⟩
theorem Rl.ren:∀ (as:List A) (vs:List Value),Rl ⟨S,w,hd,ob⟩ as vs→Rl ⟨S,w,oH m hd,oG m ob⟩ (rt m ob as) vs
 | [],_,H=>H
 | a :: as,vs,⟨v,r,e,ha,hr⟩=>⟨v,r,e,R.ren a v ha,Rl.ren as r hr⟩
end
theorem ObOK.ren {role:Nat→Option Nat} (hob:∀ id,ObOK ⟨S,w,hd,ob⟩ role id) (hok:m.all (fun p=>oB m ob (ob p.1).o)=true) (id:Nat):
  ObOK ⟨S,w,oH m hd,oG m ob⟩ (fun b=>(role b).map fun i=>(vS m i).getD i) id:=by
 rcases cm (fun p=>{ ver:=1,o:=rD m ob (ob p.1).o,leak:=(ob p.1).leak }) m id with e | ⟨i,hm⟩
 ·unfold ObOK
  have e':oG m ob id={}:=e
  simp only [e']
 ·have hi:=hob i
  have e1:=ol (ob:=ob) h2 hm
  have e2:=oz (hd:=hd) h2 hm
  have e3:=kQ h1 hm
  have e4:oB m ob (ob i).o=true:=List.all_eq_true.mp hok _ hm
  unfold ObOK at hi ⊢
  simp only [e1,e2] at hi ⊢
  cases ho:(ob i).o with
  | dead=>simp only [ho,rD]
  | box cells=>
    simp only [ho,rD,oB] at hi e4 ⊢
    obtain ⟨b,cs,et,q1,q2,q3,q4,q5,q6⟩:=hi
    refine ⟨b,cs,et,q1,q2,Rl.ren h1 h2 _ _ q3,e4,q5,?_⟩
    simp only [q6,Option.map_some,e3,Option.getD_some]
  | row e size n cap cells=>
    simp only [ho,rD] at hi ⊢
    obtain ⟨xs,q1,q2,q3,q4⟩:=hi
    refine ⟨xs,q1,q2,fun b hb=>?_,fun k hk=>by cases hk⟩
    obtain ⟨r1,r2⟩:=q3 b hb
    refine ⟨?_,r2⟩
    simp only [r1,Option.map_some,e3,Option.getD_some]
  | res k x=>
    simp only [ho,rD] at hi ⊢
    obtain ⟨vs,q1,q2,q3⟩:=hi
    refine ⟨vs,q1,q2,fun b hb=>?_⟩
    obtain ⟨r1,r2⟩:=q3 b hb
    refine ⟨?_,r2⟩
    simp only [r1,Option.map_some,e3,Option.getD_some]
end
theorem Inv.canon {F:Fr} {st st':St} {S:Nat→Nat} {hd:Nat→Value} {role:Nat→Option Nat} {act:Act} {w:World} (h:Inv F st S hd role act w)
  {ps keep:List Nat} (hps:F.par.map (·.1)=ps) (hc:canon ps keep st=some st'):∃ hd' role',Inv F st' S hd' role' act w:=by
 unfold Vm.canon at hc
 split at hc
 ·rename_i hh
  simp only [Bool.and_eq_true] at hh
  obtain ⟨⟨⟨h1,h2⟩,h3⟩,h4⟩:=hh
  cases hc
  refine ⟨oH (sG keep st) hd,fun b=>(role b).map fun i=>(vS (sG keep st) i).getD i,h.num,h.dfr,h.fix,?_,?_,h.os,h.tape,h.output,h.size,h.heap,⟨h.gl.1,fun b hb=>⟨(h.gl.2 b hb).1,by simp only [(h.gl.2 b hb).2]; rfl⟩⟩,?_,?_,?_⟩
  ·intro n
   show R _ (zj (keep.map fun n=>(n,uH (sG keep st) st.ob (st.slot n))) n) _
   rw [mc (fun n=>uH (sG keep st) st.ob (st.slot n))]
   split
   ·exact R.ren h1 h2 _ _ (h.slots n)
   ·trivial
  ·exact ObOK.ren h1 h2 h.obs h3
  ·refine ⟨h.roleP.1,?_⟩
   intro b i hb hr
   have hp':i ∈ ps:=by rw [← hps]; exact h.roleP.1 b i hr
   have q:=List.all_eq_true.mp h4 _ hp'
   simp only [Bool.and_eq_true,beq_iff_eq] at q
   simp only [h.roleP.2 b i hb hr,Option.map_some,q.1,Option.getD_some]
  ·intro b hb hr
   rw [h.role b hb hr]; rfl
  ·intro p hp
   have hp':p.1 ∈ ps:=by rw [← hps]; exact List.mem_map_of_mem (f:=(·.1)) hp
   have q:=List.all_eq_true.mp h4 _ hp'
   simp only [Bool.and_eq_true,beq_iff_eq] at q
   have hm:=nA q.1
   have e1:=ol (ob:=st.ob) h2 hm
   have e2:=oz (hd:=hd) h2 hm
   unfold oG at e1
   simp only [e1,e2]
   exact ⟨Nat.le_refl _,fun _=>(h.par p hp).2 q.2⟩
 ·cases hc
end Go.Vm
