/- Deferred functions that recover. -/
import Derived.Test.YtpjfklhaogdfeaaGreatDoorVmDfr
import Derived.BigFrame
set_option linter.unusedVariables false
set_option linter.unusedSectionVars false
set_option linter.unusedSimpArgs false
namespace Go.Vm
variable [Gl]
def Zz (P:Program) (t:TypeId):Bool:=match P.underlying t with
 | some (.interface _)=>true
 | _=>false
def kM (P:Program) (N b:Nat):Code→Bool
 | .seq (.region _ ops false) (.cond (.tmp c) _ .skip)=>match ops.toList with
   | [o1,o2]=>match o1.op,o1.dst,o2.op,o2.dst with
     | .move (.tmp t),some d1,.binOp .neq ty (.tmp x) (.const .nilIface) _,some d2=>
       o1.guard.isNone&&o2.guard.isNone&&t == b&&x == d1&&d2 == c&&decide (d1 < N)&&decide (d2 < N)&&Zz P ty
     | _,_,_,_=>false
   | _=>false
 | _=>false
section
variable {P:Program} {Γ:Ctx}
theorem aL {o:Oper} {args:Array Operand} {tys:Array TypeId} (ho:o.op= .call { callee:= .builtin .recover,args:=args,argTypes:=tys }) (act:Act) (w:World):
  (execOp act.eval o).run P w= .ok .recover w:=by
 simp only [execOp,ho,resolve,Sem.run_bind,Sem.run_pure,Result.andThen_ok,invoke]
 rfl
theorem iI {N:Nat} {code rest:Code} {a b:Nat} (h:up N code=some (a,b,rest)) {Q:Exit→Act→List Frame→World→Prop} {act:Act} {cs:List Frame} {w:World}
  (hN:N ≤ act.tmps.size)
  (hq:∀ v cs',(match recoverD cs with | some (v,cs')=>(v,cs') | none=>(.nilIface,cs))=(v,cs')→rest.wpS P Q ((act.put (some a) v).put (some b) v) cs' w):code.wpS P Q act cs w:=by
 unfold up at h
 split at h
 case h_2=>cases h
 rename_i id ops rest'
 split at h
 case h_2=>cases h
 rename_i o1 o2 hops
 split at h
 case h_2=>cases h
 rename_i args tys a' t b' ho1 hd1 ho2 hd2
 split at h
 case isFalse=>cases h
 rename_i hg
 obtain ⟨g1,g2,rfl,ha,hb⟩:=hg
 simp only [Option.some.injEq,Prod.mk.injEq] at h
 obtain ⟨rfl,rfl,rfl⟩:=h
 have hops':ops=#[o1,o2]:=by rw [← Array.toArray_toList (xs:=ops),hops]
 subst hops'
 have e1:o1.guard=none:=Option.isNone_iff_eq_none.mp g1
 have e2:o2.guard=none:=Option.isNone_iff_eq_none.mp g2
 refine wpS_seq (wpS_region ?_)
 show wpOpsS P #[o1,o2] _ [0,1] act cs w
 have i0:(#[o1,o2]:Array Oper)[0]? =some o1:=rfl
 have i1:(#[o1,o2]:Array Oper)[1]? =some o2:=rfl
 have second:∀ (v:Value) (cs':List Frame),(match recoverD cs with | some (v,cs')=>(v,cs') | none=>(.nilIface,cs))=(v,cs')→
   wpOpsS P #[o1,o2] (Exit.thenS (rest'.wpS P Q) Q) [1] (act.put o1.dst v) cs' w:=by
  intro v cs' hv
  have hrun:(execOp (act.put o1.dst v).eval o2).run P w= .ok (.value v) w:=by
   simp only [execOp,ho2,Sem.run_pure]
   congr 2
   show (act.put o1.dst v).tmps.getD t undef=v
   rw [hd1,pf act (some t) v t (fun k hk=>by cases hk; exact Nat.lt_of_lt_of_le ha hN),if_pos rfl]
  rw [wpOpsS]
  simp only [i1]
  rw [if_pos (by simp [Region.wanted,e2])]
  rw [hrun]
  simp only [Oper.upon_value]
  rw [hd1,hd2]
  exact hq v cs' hv
 rw [wpOpsS]
 simp only [i0]
 rw [if_pos (by simp [Region.wanted,e1])]
 rw [aL ho1]
 simp only
 cases hr:recoverD cs with
 | none=>simp only; exact second .nilIface cs (by rw [hr])
 | some p=>obtain ⟨v,cs'⟩:=p; simp only; exact second v cs' (by rw [hr])
theorem XN {N b:Nat} {code:Code} (h:kM P N b code=true) {Q:Exit→Act→World→Prop} {act:Act} {w:World} (hN:N ≤ act.tmps.size) (hb:act.tmps.getD b undef= .nilIface)
  (hq:∀ act',act'.defers=act.defers→Q .normal act' w):code.wp P Q act w:=by
 unfold kM at h
 split at h
 case h_2=>cases h
 rename_i id ops c big
 split at h
 case h_2=>cases h
 rename_i o1 o2 hops
 split at h
 case h_2=>cases h
 rename_i t d1 ty x yt d2 ho1 hd1 ho2 hd2
 simp only [Bool.and_eq_true,beq_iff_eq,decide_eq_true_eq] at h
 obtain ⟨⟨⟨⟨⟨⟨⟨g1,g2⟩,rfl⟩,rfl⟩,rfl⟩,n1⟩,n2⟩,hi⟩:=h
 have hops':ops=#[o1,o2]:=by rw [← Array.toArray_toList (xs:=ops),hops]
 subst hops'
 have e1:o1.guard=none:=Option.isNone_iff_eq_none.mp g1
 have e2:o2.guard=none:=Option.isNone_iff_eq_none.mp g2
 have ht:∃ ms,P.underlying ty=some (.interface ms):=by
  unfold Zz at hi
  split at hi
  ·exact ⟨_,‹_›⟩
  ·cases hi
 obtain ⟨ms,ht⟩:=ht
 have hm:P.underlying ty=some (.interface (P.methodsAt ty)):=by simp [Program.methodsAt,ht]
 refine wp_seq (wp_region ?_)
 show wpOps P #[o1,o2] _ [0,1] act w
 have i0:(#[o1,o2]:Array Oper)[0]? =some o1:=rfl
 have i1:(#[o1,o2]:Array Oper)[1]? =some o2:=rfl
 have r1:(execOp act.eval o1).run P w= .ok (.value .nilIface) w:=by
  simp only [execOp,ho1,Sem.run_pure]
  congr 2
 have hx:(act.put (some x) .nilIface).eval (.tmp x)= .nilIface:=by
  show (act.put (some x) .nilIface).tmps.getD x undef=_
  rw [pf act (some x) _ x (fun k hk=>by cases hk; exact Nat.lt_of_lt_of_le n1 hN),if_pos rfl]
 have hg2:(eqGuard .neq ty (.tmp x) (.const .nilIface) .nilIface .nilIface).run P w= .ok () w:=by simp [eqGuard]
 have hc:(act.put (some x) .nilIface).eval (.const .nilIface)= .nilIface:=rfl
 have r2:(execOp (act.put (some x) .nilIface).eval o2).run P w= .ok (.value (.bool false)) w:=by
  simp only [execOp,ho2,hx,hc,Sem.run_bind,hg2,run_neq_nil_nil w ty hm,Result.andThen_ok,Sem.run_pure]
 rw [wpOps]
 simp only [i0]
 rw [if_pos (by simp [Region.wanted,e1])]
 left
 unfold Oper.wp
 rw [r1,Oper.upon_value,hd1]
 rw [wpOps]
 simp only [i1]
 rw [if_pos (by simp [Region.wanted,e2])]
 left
 unfold Oper.wp
 rw [r2,Oper.upon_value,hd2]
 refine wp_cond_false ?_ (wp_skip ?_)
 ·show ((act.put (some x) .nilIface).put (some d2) (.bool false)).tmps.getD d2 undef=_
  rw [pf _ (some d2) _ d2 (fun k hk=>by cases hk; simp only [Act.put,Array.size_setIfInBounds]; exact Nat.lt_of_lt_of_le n2 hN),if_pos rfl]
 ·exact hq _ rfl
theorem a8 {N:Nat} {code rest:Code} {a b:Nat} (h:up N code=some (a,b,rest)):a < N∧b < N:=by
 unfold up at h
 split at h
 case h_2=>cases h
 split at h
 case h_2=>cases h
 split at h
 case h_2=>cases h
 split at h
 case isFalse=>cases h
 rename_i hg
 simp only [Option.some.injEq,Prod.mk.injEq] at h
 obtain ⟨rfl,rfl,_⟩:=h
 exact ⟨hg.2.2.2.1,hg.2.2.2.2⟩
theorem bR {cuts:List Nat} (hΓ:SoundAll P Γ) (hD:lF P Γ) {f:FuncId} {fn:Func} {code rest:Code} {cd:Cd} {a b n k:Nat}
  (hcf:∀ args w,(callFunc f args).run P w= .ok (.enter f args) w) (hf:P.funcs[f]? =some fn) (hb:fn.body=some code) (hr:fn.results.toList=[])
  (hca:up fn.ntmps code=some (a,b,rest)) (hpa:kM P fn.ntmps b rest=true) (hc:comp P ⟨fn.ntmps,[],cuts⟩ rest=some cd.strip) (hk:k ≤ fn.ntmps) (hka:k ≤ a):SoundD P f (jg Γ n k b cd):=by
 have hab:=a8 hca
 have hres:∀ (tmps:Array Value) (w:World),(Go.results fn tmps).run P w= .ok (.tuple #[]) w:=by
  intro tmps w
  exact jK (P:=P) (fn:=fn) (l:=[]) (vs:=[]) (by apply Array.ext'; rw [hr]) (by simp) rfl
 refine ⟨hcf,?_,?_⟩
 ·
  intro w args
  refine callsD_of_wpS hf hb ?_
  intro c0 cs hm
  have hN:fn.ntmps ≤ (args++Array.replicate (fn.ntmps - args.size) undef).size:=by simp only [Array.size_append,Array.size_replicate]; omega
  refine iI hca hN ?_
  intro v cs' hv
  have hrec:recoverD (c0 :: cs)=none:=by simp [recoverD,hm]
  rw [hrec] at hv
  simp only [Prod.mk.injEq] at hv
  obtain ⟨rfl,rfl⟩:=hv
  refine wpS_of_wp (XN hpa ?_ ?_ ?_)
  ·simp only [Act.put,Array.size_setIfInBounds]; exact hN
  ·rw [pf _ (some b) _ b (fun k hk=>by cases hk; simp only [Act.put,Array.size_setIfInBounds]; exact Nat.lt_of_lt_of_le hab.2 hN),if_pos rfl]
  ·intro act' hd
   refine ⟨hd,.returning,?_,_,hres _ _,⟨_,rfl⟩,rfl,rfl⟩
   rw [← hm]
 ·intro S w args xs bs x v hxs hbs hRD outs hFD
  unfold jg at hFD
  split at hFD
  case isFalse=>cases hFD
  rename_i hin
  obtain ⟨out,hrun',hFD⟩:=bind_some hFD
  obtain ⟨⟨ex,st'⟩,hrun,hend⟩:=bind_some hrun'
  split at hFD
  case h_2=>cases hFD
  simp only [Option.some.injEq] at hFD
  subst hFD
  unfold rG at hend
  split at hend
  case isFalse=>cases hend
  rename_i hkind
  obtain ⟨F,hd,role,hN,hdfr,hps,hI,hcore⟩:=kj (cuts:=cuts) (P:=P) (fn:=fn) (rs:=[]) (by rw [hr]; rfl) (by rw [hr]; simp) hk hxs hbs hin
  have hsz:(args++Array.replicate (fn.ntmps - args.size) undef).size=fn.ntmps:=by
   have:=hI.num
   rw [hN] at this; exact this
  refine callsD_of_wpS hf hb ?_
  intro c0 cs hm
  refine iI hca (Nat.le_of_eq hsz.symm) ?_
  intro v' cs' hv
  have hrec:recoverD (c0 :: cs)=some (v,{ c0 with mode:= .panicking [{ v,recovered:=true }] } :: cs):=by simp [recoverD,hm]
  rw [hrec] at hv
  simp only [Prod.mk.injEq] at hv
  obtain ⟨rfl,rfl⟩:=hv
  have hI1:=hI.put (d:=some a) (a:= .d x) (v:=v) (fun k hk=>by cases hk; rw [hN]; exact ⟨hab.1,List.not_mem_nil⟩) hRD
  have hI2:=hI1.put (d:=some b) (a:= .d x) (v:=v) (fun k hk=>by cases hk; rw [hN]; exact ⟨hab.2,List.not_mem_nil⟩) hRD
  have hI3:Inv F { slot:=zj ((b,.d x) :: (enter 0 xs).1),ob:=zt (enter 0 xs).2 } S hd role (({ tmps:=args++Array.replicate (fn.ntmps - args.size) undef,defers:=[] }:Act).put (some a) v |>.put (some b) v) w:=by
   refine ⟨hI2.num,hI2.dfr,hI2.fix,?_,hI2.obs,hI2.os,hI2.tape,hI2.output,hI2.size,hI2.heap,hI2.gl,hI2.roleP,hI2.role,hI2.par⟩
   intro m
   have h2:=hI2.slots m
   have h0:=hI.slots m
   simp only [zj]
   by_cases hmb:m=b
   ·subst hmb
    rw [if_pos rfl]
    simp only [St.put,zq] at h2
    exact h2
   ·rw [if_neg hmb]
    by_cases hma:m=a
    ·rw [p9 xs 0 m (.inr (by rw [hin.1,hma]; omega))]; trivial
    ·simp only [St.put,zx _ _ hmb,zx _ _ hma] at h2
     exact h2
  refine wpS_of_wp (wp_mono (xX hΓ hps (hD F _ hps) n cd (hN ▸ hc) hrun hI3) ?_)
  intro e act' w' hp
  have hb:=hcore ex st' _ hkind hend e act' w' hp
  cases e with
  | normal=>
    obtain ⟨h0,u,h1,h2⟩:=hb
    exact ⟨h0,_,rfl,u,h1,rfl,h2⟩
  | ret=>
    obtain ⟨h0,u,h1,h2⟩:=hb
    exact ⟨h0,_,rfl,u,h1,rfl,h2⟩
  | panic ch=>
    obtain ⟨h0,h2⟩:=hb
    exact ⟨h0,_,rfl,rfl,h2⟩
  | outgrown=>exact ⟨_,rfl,hb⟩
  | _=>exact hb
end
end Go.Vm
