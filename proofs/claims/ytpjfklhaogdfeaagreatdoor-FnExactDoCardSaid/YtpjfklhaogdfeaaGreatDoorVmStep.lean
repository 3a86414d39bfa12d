/- A region's operations, in the order of the text, do what the abstract machine says. -/
import Derived.Test.YtpjfklhaogdfeaaGreatDoorVmCall3
set_option linter.unusedVariables false
set_option linter.unusedSectionVars false
set_option linter.unusedSimpArgs false
namespace Go.Vm
variable [Gl]
def ExR (S:Nat→Nat) (w:World):Ex→Exit→Prop
 | .normal,e=>e= .normal
 | .exit id,e=>e= .exit id
 | .ret,e=>e= .ret
 | .panic x,e=>∃ v,e= .panic [{ v,recovered:=false }]∧RD S w x v
def Post (F:Fr) (ex:Ex) (st:St):Exit→Act→World→Prop:=fun e a w=>
 ∃ S hd role,Inv F st S hd role a w∧ExR S w ex e
section
variable {F:Fr} {st:St} {S:Nat→Nat} {hd:Nat→Value} {role:Nat→Option Nat} {act:Act} {w:World}
theorem Inv.ext (h:Inv F st S hd role act w) {S':Nat→Nat} {w':World} {hd':Nat→Value} {ob':Nat→Ob} {role':Nat→Option Nat}
  (x:Ext ⟨S,w,hd,st.ob⟩ ⟨S',w',hd',ob'⟩ role role'):Inv F { st with ob:=ob' } S' hd' role' act w' where
 num:=h.num
 dfr:=h.dfr
 fix:=h.fix
 slots n:=R.mono x.le _ _ (h.slots n)
 obs:=x.obs
 os:=x.os.trans h.os
 tape:=x.tape.trans h.tape
 output:=x.output.trans h.output
 size:=Nat.le_trans h.size x.size
 heap b hb hr:=by
  have a:=h.heap b hb hr
  have hb':b < w.heap.size:=Nat.lt_of_lt_of_le hb h.size
  have a':=x.heap b hb' (h.role b hb hr)
  exact ⟨a'.1.trans a.1,a'.2.trans a.2⟩
 roleP:=⟨h.roleP.1,fun b i hb hr=>(x.role b (Nat.lt_of_lt_of_le hb h.size)).trans (h.roleP.2 b i hb hr)⟩
 role b hb hr:=(x.role b (Nat.lt_of_lt_of_le hb h.size)).trans (h.role b hb hr)
 gl:=⟨Nat.le_trans h.gl.1 x.size,fun b hb=>by
  obtain ⟨a1,a2⟩:=h.gl.2 b hb
  have hb':b < w.heap.size:=Nat.lt_of_lt_of_le hb h.gl.1
  exact ⟨(x.heap b hb' a2).1.trans a1,(x.role b hb').trans a2⟩⟩
 par p hp:=by
  obtain ⟨h1,h2⟩:=h.par p hp
  have hv:=x.le.ver p.1
  simp only at hv
  refine ⟨Nat.le_trans h1 hv,fun e=>?_⟩
  have e':(ob' p.1).ver=(st.ob p.1).ver:=by simp only at e; omega
  have s:=(x.le.same p.1 e').2.2
  simp only at s
  rw [s]
  exact h2 (by simp only at e; omega)
theorem pf (act:Act) (d:Option Nat) (v:Value) (n:Nat) (hd:∀ k,d=some k→k < act.tmps.size):
  (act.put d v).tmps.getD n undef=if d=some n then v else act.tmps.getD n undef:=by
 cases d with
 | none=>simp [Act.put]
 | some k=>
   have hk:=hd k rfl
   simp only [Act.put,Option.some.injEq]
   rw [Array.getD_eq_getD_getElem?,Array.getD_eq_getD_getElem?,Array.getElem?_setIfInBounds]
   by_cases h:k=n
   ·subst h; simp [hk]
   ·simp [h]
theorem Inv.put (h:Inv F st S hd role act w) {d:Option Nat} {a:A} {v:Value} (hd':∀ k,d=some k→F.N.ok k) (hr:R ⟨S,w,hd,st.ob⟩ a v):
  Inv F (st.put d a) S hd role (act.put d v) w:=by
 have e1:(st.put d a).ob=st.ob:=by cases d <;> rfl
 refine ⟨?_,?_,?_,?_,?_,h.os,h.tape,h.output,h.size,h.heap,h.gl,h.roleP,h.role,by rw [e1]; exact h.par⟩
 ·cases d
  ·exact h.num
  ·simp [Act.put,h.num]
 ·cases d
  ·exact h.dfr
  ·exact h.dfr
 ·intro n hn
  rw [pf act d v n (fun k hk=>by rw [h.num]; exact (hd' k hk).1),if_neg (fun e=>(hd' n e).2 hn)]
  exact h.fix n hn
 ·intro n
  rw [pf act d v n (fun k hk=>by rw [h.num]; exact (hd' k hk).1),e1]
  by_cases hn:d=some n
  ·subst hn; simp only [if_true]
   show R _ (upd st.slot n a n) v
   rw [zq]; exact hr
  ·rw [if_neg hn]
   have:(st.put d a).slot n=st.slot n:=by
    cases d with
    | none=>rfl
    | some k=>exact zx _ _ (fun e=>hn (by rw [e]))
   rw [this]; exact h.slots n
 ·rw [e1]; exact h.obs
variable {P:Program} {Γ:Ctx}
theorem Yy {o:Oper} {f:FuncId} {args:Array Operand} {tys:Array TypeId} (ho:o.op= .call { callee:= .value (.func f),args:=args,argTypes:=tys }) (act:Act) (w:World)
  (h:(callFunc f (args.map act.eval)).run P w= .ok (.enter f (args.map act.eval)) w):(execOp act.eval o).run P w= .ok (.enter f (args.map act.eval)) w:=by
 simp only [execOp,ho,resolve,Act.eval,Deferred.ofValue,Sem.run_bind,Sem.run_pure,Result.andThen_ok,invoke,Array.empty_append,Array.append_empty]
 exact h
theorem ZT {o:Oper} {f t:Nat} {args:Array Operand} {tys:Array TypeId} (ho:o.op= .call { callee:= .value (.tmp t),args:=args,argTypes:=tys }) (act:Act) (w:World)
  (hf:act.eval (.tmp t)= .func (.func f) #[] #[])
  (h:(callFunc f (args.map act.eval)).run P w= .ok (.enter f (args.map act.eval)) w):(execOp act.eval o).run P w= .ok (.enter f (args.map act.eval)) w:=by
 simp only [execOp,ho,resolve,hf,Deferred.ofValue,Sem.run_bind,Sem.run_pure,Result.andThen_ok,invoke,Array.empty_append,Array.append_empty]
 exact h
theorem Ya {o:Oper} {op:SOp} {sas:List SA} (hc:mM P o=some (op,sas)) (hcall:op.calls=true):
  (∃ f args tys,o.op= .call { callee:= .value (.func f),args:=args,argTypes:=tys }∧op= .call f∧zD args.toList=some sas) ∨
  (∃ t args tys l,o.op= .call { callee:= .value (.tmp t),args:=args,argTypes:=tys }∧op= .dyn∧sas= .t t :: l∧zD args.toList=some l):=by
 unfold mM at hc
 split at hc <;> first
  | (cases hc; done)
  | (obtain ⟨l,hl,e⟩:=map_some hc; cases e; left; exact ⟨_,_,_,‹_›,rfl,hl⟩)
  | (obtain ⟨l,hl,e⟩:=map_some hc; cases e; right; exact ⟨_,_,_,l,‹_›,rfl,rfl,hl⟩)
  | (exfalso
     repeat' (first
      | (obtain ⟨_,_,hc'⟩:=bind_some hc; clear hc; rename _=>hc)
      | (obtain ⟨_,_,hc'⟩:=map_some hc; clear hc; rename _=>hc)
      | (split at hc)
      | (dsimp only at hc; split at hc))
     all_goals first
      | (cases hc; done)
      | (cases hc; simp [SOp.calls] at hcall; done))
theorem iW (hΓ:SoundAll P Γ) (hI:Inv F st S hd role act w) {o:Oper} {op:SOp} {sas:List SA} (hc:oI P F.N o=some (op,sas)) (hdst:∀ k,o.dst=some k→F.N.ok k)
  {out:Out} (he:eval Γ st.ob (o.dst.getD 0) op (sas.map st.get)=some out) {next:Act→World→Prop} {Q:Exit→Act→World→Prop}
  (hn:∀ a us,out= .val a us→∀ act' w',Post F .normal (({ st with ob:=za st.ob us }:St).put o.dst a) .normal act' w'→next act' w')
  (hq:∀ x us,out= .pan x us→∀ e act' w',Post F (.panic x) { st with ob:=za st.ob us } e act' w'→Q e act' w'):o.wp P act w next Q:=by
 have hs:∀ n,R ⟨S,w,hd,st.ob⟩ (st.slot n) (act.tmps.getD n undef):=hI.slots
 by_cases hcall:op.calls=false
 ·have hdoes:=Sp (c:=⟨S,w,hd,st.ob⟩) hs hI.obs hc hcall he
  cases out with
  | val a us=>
    obtain ⟨nx,v,S',w',hd',role',hrun,hnx,hext,hr⟩:=hdoes
    unfold Oper.wp
    rw [hrun]
    have hI':=(hI.ext hext).put (d:=o.dst) hdst hr
    rcases hnx with rfl | ⟨rfl,rfl⟩
    ·exact hn a us rfl _ _ ⟨S',hd',role',hI',rfl⟩
    ·exact hn a us rfl _ _ ⟨S',hd',role',hI',rfl⟩
  | pan x us=>
    obtain ⟨v,hrun,rfl,hr⟩:=hdoes
    unfold Oper.wp
    rw [hrun]
    exact hq x [] rfl _ _ _ ⟨S,hd,role,hI,v,rfl,hr⟩
 ·
  have key:∀ (f:FuncId) (args:Array Operand) (as:List A),Rl ⟨S,w,hd,st.ob⟩ as (args.map act.eval).toList→sY Γ st.ob (o.dst.getD 0) f as=some out→
    ((callFunc f (args.map act.eval)).run P w= .ok (.enter f (args.map act.eval)) w→(execOp act.eval o).run P w= .ok (.enter f (args.map act.eval)) w)→o.wp P act w next Q:=by
   intro f args as hR hdo hrun
   obtain ⟨h1,h2⟩:=WI (P:=P) (c:=⟨S,w,hd,st.ob⟩) (role:=role) hΓ hI.obs hI.gl hR hdo
   unfold Oper.wp
   rw [hrun h1,Oper.upon_enter]
   refine h2.mono ?_
   rintro e w' ⟨S',hd',role',hp⟩
   cases out with
   | val a us=>
     obtain ⟨v,rfl,hext,hr⟩:=hp
     exact hn a us rfl _ _ ⟨S',hd',role',(hI.ext hext).put (d:=o.dst) hdst hr,rfl⟩
   | pan x us=>
     obtain ⟨v,rfl,hext,hr⟩:=hp
     exact hq x us rfl _ _ _ ⟨S',hd',role',hI.ext hext,v,rfl,hr⟩
  have hc:mM P o=some (op,sas):=by
   unfold oI at hc
   cases h:my P F.N o with
   | none=>rw [h] at hc; exact hc
   | some x=>
     rw [h] at hc
     simp only [Option.some.injEq] at hc
     subst hc
     exfalso
     unfold my at h
     split at h
     ·split at h
      ·obtain ⟨u,hu,h⟩:=bind_some h
       split at h
       ·obtain ⟨s,hsz,h⟩:=bind_some h
        obtain ⟨l,hl,e⟩:=map_some h
        cases e
        exact hcall rfl
       ·cases h
      ·cases h
     ·split at h
      ·obtain ⟨u,hu,h⟩:=bind_some h
       split at h
       ·obtain ⟨s,hsz,h⟩:=bind_some h
        obtain ⟨l,hl,e⟩:=map_some h
        cases e
        exact hcall rfl
       ·cases h
      ·cases h
     ·cases h
  rcases Ya hc (by simpa using hcall) with ⟨f,args,tys,ho,rfl,hl⟩ | ⟨t,args,tys,l,ho,rfl,rfl,hl⟩
  ·refine key f args (sas.map st.get) ?_ he (fun h=>Yy ho act w h)
   rw [Array.toList_map]; exact qm hs hl
  ·have ht:=hs t
   simp only [List.map_cons,St.get,eval] at he
   split at he
   ·rename_i f r heq
    simp only [List.cons.injEq] at heq
    obtain ⟨h1,h2⟩:=heq
    subst h2
    rw [h1] at ht
    simp only [R,RD] at ht
    refine key f args (l.map st.get) ?_ he (fun h=>ZT ho act w ht h)
    rw [Array.toList_map]; exact qm hs hl
   ·cases he
end
end Go.Vm
