/- Functions with one deferred call, that may recover. -/
import Derived.Test.YtpjfklhaogdfeaaGreatDoorVmLaw
import Derived.Recover
set_option linter.unusedVariables false
set_option linter.unusedSectionVars false
set_option linter.unusedSimpArgs false
namespace Go.Vm
variable [Gl]
def wpD (P:Program) (K:Act→World→Prop) (Q:Exit→Act→World→Prop):List Code→Act→World→Prop
 | [],a,w=>K a w
 | c :: cs,a,w=>c.wp P (Exit.then (wpD P K Q cs) Q) a w
def SoundD (P:Program) (f:FuncId) (FD:D→List X→Option (List (List D))):Prop:=
 (∀ args w,(callFunc f args).run P w= .ok (.enter f args) w)∧
 (∀ (w:World) (args:Array Value),CallsD P f args .returning w fun e u' w'=>(∃ v,e= .returned v)∧u'= .returning∧w'=w)∧
 ∀ (S:Nat→Nat) (w:World) (args:Array Value) (xs:List X) (bs:List Nat) (x:D) (v:Value),RXs S w xs args.toList bs→fK w bs→RD S w x v→∀ outs,FD x xs=some outs→
   CallsD P f args (.panicking [{ v,recovered:=false }]) w fun e u' w'=>u'= .panicking [{ v,recovered:=true }]∧nZ S w bs (yF xs args.toList) (.ret (.tup []) outs) e w'
section
variable {P:Program} {Γ:Ctx}
theorem jH (act:Act):∀ {args:List Operand} {l:List Nat},bG args=some l→args.map act.eval=l.map (act.tmps.getD · undef)
 | [],l,h=>by cases h; rfl
 | .tmp t :: r,l,h=>by
   obtain ⟨l',h1,h2⟩:=map_some h
   subst h2
   simp only [List.map_cons,jH act h1]; rfl
 | .const _ :: _,_,h=>by cases h
 | .func _ :: _,_,h=>by cases h
 | .global _ :: _,_,h=>by cases h
theorem Sa {c:Code} {f:FuncId} {da:List Nat} (h:fw c=some (f,da)) {act:Act} {w:World} {Q:Exit→Act→World→Prop}
  (hq:Q .normal { act with defers:={ target:= .fn (.func f) #[],args:=(da.map (act.tmps.getD · undef)).toArray } :: act.defers } w):c.wp P Q act w:=by
 unfold fw at h
 split at h
 case h_2=>cases h
 rename_i id ops
 split at h
 case h_2=>cases h
 rename_i o hops
 split at h
 case h_2=>cases h
 rename_i f' args tys ho
 split at h
 case isFalse=>cases h
 rename_i hg
 obtain ⟨l,hl,e⟩:=map_some h
 simp only [Prod.mk.injEq] at e
 obtain ⟨e1,e2⟩:=e
 subst e1 e2
 have hops':ops=#[o]:=by rw [← Array.toArray_toList (xs:=ops),hops]
 subst hops'
 refine wp_region ?_
 have hgn:o.guard=none:=Option.isNone_iff_eq_none.mp hg.1
 have hdn:o.dst=none:=Option.isNone_iff_eq_none.mp hg.2
 have hargs:args.map act.eval=(l.map (act.tmps.getD · undef)).toArray:=by
  apply Array.ext'
  rw [Array.toList_map,jH act hl]
 have hrun:(execOp act.eval o).run P w= .ok (.defer { target:= .fn (.func f') #[],args:=(l.map (act.tmps.getD · undef)).toArray }) w:=by
  rw [← hargs]
  simp only [execOp,ho,resolve,Act.eval,Deferred.ofValue,Sem.run_bind,Sem.run_pure,Result.andThen_ok,Array.empty_append,Array.append_empty]
 show wpOps P #[o] Q [0] act w
 have h0:(#[o]:Array Oper)[0]? =some o:=rfl
 simp only [wpOps,h0]
 rw [if_pos (by simp [Region.wanted,hgn])]
 left
 unfold Oper.wp
 rw [hrun,Oper.upon_defer,hdn]
 exact hq
theorem WG:∀ {code rc:Code} {cs:List Code} {d:FuncId×List Nat} {act:Act} {w:World} {Q:Exit→Act→World→Prop},qN code=some (cs,d,rc)→
  wpD P (fun a w=>rc.wp P Q { a with defers:={ target:= .fn (.func d.1) #[],args:=(d.2.map (a.tmps.getD · undef)).toArray } :: a.defers } w) Q cs act w→code.wp P Q act w:=by
 intro code
 induction code with
 | seq a b _ ih=>
   intro rc cs d act w Q h hw
   simp only [qN] at h
   split at h
   ·rename_i d' hd
    simp only [Option.some.injEq,Prod.mk.injEq] at h
    obtain ⟨rfl,rfl,rfl⟩:=h
    exact wp_seq (Sa (f:=d'.1) (da:=d'.2) hd hw)
   ·rename_i hd
    obtain ⟨⟨p',d',r'⟩,h1,e⟩:=map_some h
    simp only [Prod.mk.injEq] at e
    obtain ⟨rfl,rfl,rfl⟩:=e
    refine wp_seq (wp_mono hw ?_)
    intro e a w he
    cases e <;> first | exact ih h1 he | exact he
 | _=>intro rc cs d act w Q h; cases h
theorem nP (hΓ:SoundAll P Γ) {F:Fr} {ps:List Nat} (hps:F.par.map (·.1)=ps) (hD:fm P Γ F ps) (n:Nat) {K:Act→World→Prop} {Q:Exit→Act→World→Prop} {ex:Ex} {st':St}
  (hK:ex= .normal→∀ a w,Post F .normal st' .normal a w→K a w) (hQ:ex ≠ .normal→∀ e a w,Post F ex st' e a w→Q e a w):
  ∀ (cs:List Code) (A:Cd) {st:St} {S:Nat→Nat} {hd:Nat→Value} {role:Nat→Option Nat} {act:Act} {w:World},
  comp P F.N (km cs)=some A.strip→run Γ ps n A st=some (ex,st')→Inv F st S hd role act w→wpD P K Q cs act w
 | [],A,st,S,hd,role,act,w,hc,hr,hI=>by
   cases A with
   | skip=>
     simp only [run,Option.some.injEq,Prod.mk.injEq] at hr
     obtain ⟨rfl,rfl⟩:=hr
     exact hK rfl act w ⟨S,hd,role,hI,rfl⟩
   | frz m x=>
     simp only [run] at hr
     obtain ⟨st1,h1,hr⟩:=bind_some hr
     obtain ⟨S',hI'⟩:=hI.frz h1
     exact nP hΓ hps hD n hK hQ [] x hc hr hI'
   | _=>exact absurd (xR hc) (by simp [km,qf,sc,Cd.strip])
 | c :: cs,A,st,S,hd,role,act,w,hc,hr,hI=>by
   cases A with
   | seq x y=>
     simp only [km,comp,Cd.strip] at hc
     obtain ⟨ca,h1,hc⟩:=bind_some hc
     obtain ⟨cb,h2,hc⟩:=map_some hc
     cases hc
     simp only [run] at hr
     obtain ⟨⟨e1,s1⟩,h3,hr⟩:=bind_some hr
     refine wp_mono (xX hΓ hps hD n x h1 h3 hI) ?_
     rintro e a w ⟨S',hd',role',hI',hx⟩
     cases e1 with
     | normal=>
       simp only [ExR] at hx; subst hx
       exact nP hΓ hps hD n hK hQ cs y h2 hr hI'
     | exit i=>
       simp only [Option.some.injEq,Prod.mk.injEq] at hr
       obtain ⟨rfl,rfl⟩:=hr
       simp only [ExR] at hx; subst hx
       exact hQ (by simp) _ _ _ ⟨S',hd',role',hI',rfl⟩
     | ret=>
       simp only [Option.some.injEq,Prod.mk.injEq] at hr
       obtain ⟨rfl,rfl⟩:=hr
       simp only [ExR] at hx; subst hx
       exact hQ (by simp) _ _ _ ⟨S',hd',role',hI',rfl⟩
     | panic z=>
       simp only [Option.some.injEq,Prod.mk.injEq] at hr
       obtain ⟨rfl,rfl⟩:=hr
       obtain ⟨v,rfl,hv⟩:=hx
       exact hQ (by simp) _ _ _ ⟨S',hd',role',hI',v,rfl,hv⟩
   | frz m x=>
     simp only [run] at hr
     obtain ⟨st1,h1,hr⟩:=bind_some hr
     obtain ⟨S',hI'⟩:=hI.frz h1
     exact nP hΓ hps hD n hK hQ (c :: cs) x hc hr hI'
   | _=>exact absurd (xR hc) (by simp [km,qf,sc,Cd.strip])
termination_by cs A=>(cs.length,SizeOf.sizeOf A)
theorem bz {c:C} {role:Nat→Option Nat} (hobs:∀ id,ObOK c role id):∀ {as:List A} {vs:List Value} {ids:List Nat},sQ c.ob as=some ids→Rl c as vs→
  vs=ids.map c.hd∧∀ id ∈ ids,(c.ob id).ver=1∧(c.hd id).oneCell'=true
 | [],vs,ids,h,hr=>by cases h; exact ⟨hr,by simp⟩
 | a :: as,vs,ids,h,⟨v,r,e,hv,hr⟩=>by
   unfold sQ at h
   split at h
   ·rename_i heq; cases heq
   ·rename_i id r' heq
    injection heq with e1 e2
    subst e1 e2
    split at h
    case isFalse=>cases h
    rename_i hb
    obtain ⟨ids',h1,h2⟩:=map_some h
    subst h2
    obtain ⟨q1,q2⟩:=bz hobs h1 hr
    obtain ⟨b,h3,h4⟩:=hv.2.2 hb.1.symm hb.2
    have hvh:v=c.hd id:=by rw [h3,h4]
    refine ⟨by rw [e,q1,hvh]; rfl,?_⟩
    intro i hi
    rcases List.mem_cons.1 hi with rfl | hi
    ·exact ⟨hb.1,by rw [← hvh]; exact hv.1⟩
    ·exact q2 i hi
   ·cases h
theorem KD {c:C} {role:Nat→Option Nat} (hobs:∀ id,ObOK c role id) {id:Nat} {v:Value} (h1:v.oneCell'=true) (h2:1 ≤ (c.ob id).ver) (h3:(c.ob id).ver=1→c.hd id=v):R c (.adr id 1 0) v:=by
 refine ⟨h1,h2,fun e hb=>?_⟩
 have hv:=h3 e.symm
 cases ho:(c.ob id).o with
 | box cells=>
   obtain ⟨b,cs,et,q1,_⟩:=wQ (hobs id) ho
   exact ⟨b,q1,by rw [← hv,q1]⟩
 | row=>rw [ho] at hb; cases hb
 | res=>rw [ho] at hb; cases hb
 | dead=>rw [ho] at hb; cases hb
theorem dW {c:C} {role:Nat→Option Nat} (hobs:∀ id,ObOK c role id) {hd0:Nat→Value}:∀ {ids:List Nat},(∀ id ∈ ids,(hd0 id).oneCell'=true∧1 ≤ (c.ob id).ver∧((c.ob id).ver=1→c.hd id=hd0 id))→
  Rl c (ids.map fun id=> .adr id 1 0) (ids.map hd0)
 | [],_=>rfl
 | id :: ids,h=>⟨_,_,rfl,KD hobs (h id (by simp)).1 (h id (by simp)).2.1 (h id (by simp)).2.2,dW hobs fun i hi=>h i (by simp [hi])⟩
theorem gD {c:C} {f:Nat→Value}:∀ {da ids:List Nat} {n:Nat},Rl c (ids.map fun id=> .adr id 1 0) (da.map f)→R c (zj (um da ids) n) (f n)
 | [],ids,n,_=>by cases ids <;> trivial
 | t :: ts,[],n,_=>trivial
 | t :: ts,id :: ids,n,⟨v,r,e,hv,hr⟩=>by
   simp only [um,zj]
   simp only [List.map_cons,List.cons.injEq] at e
   split
   ·rename_i hn; subst hn; rw [e.1]; exact hv
   ·exact gD (by rw [e.2]; exact hr)
def Fr.behind (F:Fr) (N:Nx) (ids:List Nat) (hd:Nat→Value) (act:Act) (d:Deferred):Fr:=
 { F with N:=N,par:=F.par++ids.map (fun id=>(id,hd id)),dfr:=[d],fv:=fun n=>act.tmps.getD n undef }
theorem Inv.behind {F:Fr} {st:St} {S:Nat→Nat} {hd:Nat→Value} {role:Nat→Option Nat} {act:Act} {w:World} (h:Inv F st S hd role act w) {N:Nx} (hN:N.n=F.N.n) (hd0:F.dfr=[])
  {ids:List Nat} (hids:∀ id ∈ ids,(st.ob id).ver=1) (d:Deferred):Inv (F.behind N ids hd act d) st S hd role { act with defers:=d :: act.defers } w where
 num:=h.num.trans hN.symm
 dfr:=by show d :: act.defers=[d]; rw [h.dfr,hd0]
 fix n _:=rfl
 slots:=h.slots
 obs:=h.obs
 os:=h.os
 tape:=h.tape
 output:=h.output
 size:=h.size
 heap:=h.heap
 roleP:=⟨fun b i hb=>by
  have:=h.roleP.1 b i hb
  show i ∈ (F.par++_).map (·.1)
  rw [List.map_append]; exact List.mem_append.2 (.inl this),h.roleP.2⟩
 role:=h.role
 gl:=h.gl
 par p hp:=by
  rcases List.mem_append.1 hp with hp | hp
  ·exact h.par p hp
  ·obtain ⟨id,hid,rfl⟩:=List.mem_map.1 hp
   exact ⟨by simp only [hids id hid]; exact Nat.le_refl _,fun _=>rfl⟩
theorem Inv.before {F:Fr} {st:St} {S:Nat→Nat} {hd:Nat→Value} {role:Nat→Option Nat} {act:Act} {w:World} {N:Nx} {ids:List Nat} {hd0:Nat→Value} {act0:Act} {d:Deferred}
  (h:Inv (F.behind N ids hd0 act0 d) st S hd role act w) (hN:N.n=F.N.n) (hf:F.N.fix=[]) (hd1:F.dfr=[]) (hri:∀ b i,F.role0 b=some i→i ∈ F.par.map (·.1)):Inv F st S hd role { act with defers:=[] } w where
 num:=h.num.trans hN
 dfr:=hd1.symm
 fix n hn:=by rw [hf] at hn; cases hn
 slots:=h.slots
 obs:=h.obs
 os:=h.os
 tape:=h.tape
 output:=h.output
 size:=h.size
 heap:=h.heap
 roleP:=⟨hri,h.roleP.2⟩
 role:=h.role
 gl:=h.gl
 par p hp:=h.par p (List.mem_append.2 (.inl hp))
theorem bS {cuts:List Nat} (hΓ:SoundAll P Γ) (hD:lF P Γ) {f fd:FuncId} {FD:D→List X→Option (List (List D))} {fn:Func} {code rc:Code} {cs:List Code} {A B:Cd} {da keep:List Nat} {rs:List RV} {n k:Nat}
  (hcf:∀ args w,(callFunc f args).run P w= .ok (.enter f args) w) (hSD:SoundD P fd FD) (hf:P.funcs[f]? =some fn) (hb:fn.body=some code) (hsp:qN code=some (cs,(fd,da),rc))
  (hcA:comp P ⟨fn.ntmps,[],cuts⟩ (km cs)=some A.strip) (hcB:comp P ⟨fn.ntmps,da,cuts⟩ rc=some B.strip)
  (hrs:vG P fn.results.toList=some rs) (hrs4:fn.results.toList.length ≤ 4) (hk:k ≤ fn.ntmps):Sound P f (m4 Γ FD n k A da keep B rs):=by
 intro S w args xs bs hxs hbs out ho
 refine ⟨hcf args w,?_⟩
 unfold m4 at ho
 split at ho
 case isFalse=>cases ho
 rename_i hin
 obtain ⟨⟨ex,st1⟩,hrun,hleave⟩:=bind_some ho
 obtain ⟨F,hd,role,hN,hdfr,hps,hI,hcore⟩:=kj (cuts:=cuts) (P:=P) hrs hrs4 hk hxs hbs hin
 refine calls_of_wp_defers hf hb (WG hsp ?_)
 have plain:∀ (e:Exit) (a:Act) (w':World),a.defers=[]→bodyPost P fn (nZ S w bs (yF xs args.toList) out) e a w'→bodyPostD P fn (nZ S w bs (yF xs args.toList) out) e a w':=by
  intro e a w' h0 h
  cases e with
  | normal=>obtain ⟨_,v,h1,h2⟩:=h; show Leaves P fn a.tmps _ a.defers .returning w'; rw [h0]; exact ⟨v,h1,h2⟩
  | ret=>obtain ⟨_,v,h1,h2⟩:=h; show Leaves P fn a.tmps _ a.defers .returning w'; rw [h0]; exact ⟨v,h1,h2⟩
  | panic ch=>obtain ⟨_,h2⟩:=h; show Leaves P fn a.tmps _ a.defers (.panicking ch) w'; rw [h0]; exact h2
  | outgrown=>exact h
  | _=>exact h
 have early:ex ≠ .normal→∀ e a w',Post F ex st1 e a w'→bodyPostD P fn (nZ S w bs (yF xs args.toList) out) e a w':=by
  intro hne e a w' hp
  have hl:rG ((enter 0 xs).2.map (·.1)) (xG (enter 0 xs).2) rs (ex,st1)=some out:=by
   cases ex with
   | normal=>exact absurd rfl hne
   | _=>exact hleave
  unfold rG at hl
  split at hl
  case isFalse=>cases hl
  have h0:a.defers=[]:=by obtain ⟨S',hd',role',hI',_⟩:=hp; rw [hI'.dfr,hdfr]
  exact plain e a w' h0 (hcore ex st1 out ‹_› hl e a w' hp)
 refine nP hΓ hps (hD F _ hps) n ?_ early cs A (hN ▸ hcA) hrun hI
 rintro rfl a1 w1 ⟨S1,hd1,role1,hI1,_⟩
 obtain ⟨ids,hids,hleave⟩:=bind_some hleave
 obtain ⟨stc,hcan,hleave⟩:=bind_some hleave
 obtain ⟨⟨ex2,st2⟩,hrun2,hend⟩:=bind_some hleave
 have hslotsR:Rl ⟨S1,w1,hd1,st1.ob⟩ (da.map st1.slot) (da.map (a1.tmps.getD · undef)):=by
  have:∀ (l:List Nat),Rl ⟨S1,w1,hd1,st1.ob⟩ (l.map st1.slot) (l.map (a1.tmps.getD · undef)):=by
   intro l
   induction l with
   | nil=>rfl
   | cons t l ih=>exact ⟨_,_,rfl,hI1.slots t,ih⟩
  exact this da
 obtain ⟨hvals,hboxes⟩:=bz (c:=⟨S1,w1,hd1,st1.ob⟩) hI1.obs hids hslotsR
 simp only at hvals hboxes
 let d:Deferred:={ target:= .fn (.func fd) #[],args:=(da.map (a1.tmps.getD · undef)).toArray }
 have hI1':Inv (F.behind ⟨fn.ntmps,da,cuts⟩ ids hd1 a1 d) st1 S1 hd1 role1 { a1 with defers:=d :: a1.defers } w1:=
  hI1.behind (N:=⟨fn.ntmps,da,cuts⟩) (by rw [hN]) hdfr (fun id hid=>(hboxes id hid).1) d
 have hps':(F.behind ⟨fn.ntmps,da,cuts⟩ ids hd1 a1 d).par.map (·.1)=(enter 0 xs).2.map (·.1)++ids:=by
  show (F.par++ids.map fun id=>(id,hd1 id)).map (·.1)=_
  rw [List.map_append,hps,List.map_map]
  congr 1
  exact List.map_id' ids
 obtain ⟨hdc,rolec,hIc⟩:=hI1'.canon hps' hcan
 refine wp_mono (xX hΓ hps' (hD _ _ hps') n B hcB hrun2 hIc) ?_
 rintro e a2 w2 ⟨S2,hd2,role2,hI2,hx2⟩
 have hdef:a2.defers=[d]:=hI2.dfr
 have hbef:=fun {st S hd role w} (h:Inv (F.behind ⟨fn.ntmps,da,cuts⟩ ids hd1 a1 d) st S hd role a2 w)=>h.before (by rw [hN]) (by rw [hN]) hdfr hI.roleP.1
 have hinv:∀ w,(invoke d.target d.args).run P w= .ok (.enter fd d.args) w:=by
  intro w
  show (callFunc fd (d.args++#[])).run P w=_
  rw [Array.append_empty]
  exact hSD.1 d.args w
 have quiet:(∀ x,ex2 ≠ .panic x)→(e= .normal ∨ e= .ret)→rG ((enter 0 xs).2.map (·.1)) (xG (enter 0 xs).2) rs (ex2,st2)=some out→bodyPostD P fn (nZ S w bs (yF xs args.toList) out) e a2 w2:=by
  intro hnp he hl
  unfold rG at hl
  split at hl
  case isFalse=>cases hl
  have hb:=hcore ex2 st2 out ‹_› hl e { a2 with defers:=[] } w2 ⟨S2,hd2,role2,hbef hI2,hx2⟩
  have hv:∃ v,(Go.results fn a2.tmps).run P w2= .ok v w2∧nZ S w bs (yF xs args.toList) out (.returned v) w2:=by
   rcases he with rfl | rfl
   ·exact hb.2
   ·exact hb.2
  have hL:Leaves P fn a2.tmps (nZ S w bs (yF xs args.toList) out) a2.defers .returning w2:=by
   rw [hdef]
   refine leaves_cons (by simp) (hinv w2) ((hSD.2.1 w2 d.args).mono ?_)
   rintro e' u' w' ⟨⟨v,rfl⟩,rfl,rfl⟩
   exact hv
  rcases he with rfl | rfl
  ·exact hL
  ·exact hL
 cases ex2 with
 | normal=>exact quiet (by simp) (.inl hx2) hend
 | ret=>exact quiet (by simp) (.inr hx2) hend
 | exit i=>
   simp only [ea,rG,qD] at hend
   split at hend <;> cases hend
 | panic x=>
   obtain ⟨v,rfl,hv⟩:=hx2
   simp only [ea] at hend
   obtain ⟨st',hrec,hl⟩:=bind_some hend
   unfold gV at hrec
   obtain ⟨S3,hI3,hst3⟩:=hI2.forget hps'
   obtain ⟨⟨ys,ls,ms⟩,htx,hrec⟩:=bind_some hrec
   simp only at hrec
   split at hrec
   case isFalse=>cases hrec
   rename_i hdist
   obtain ⟨outs,hFD,hrec⟩:=bind_some hrec
   obtain ⟨o,hback,hrec⟩:=bind_some hrec
   cases o with
   | pan _ _=>cases hrec
   | val av us=>
   simp only [Option.some.injEq] at hrec
   have hargs:Rl ⟨S3,w2,hd2,(st2.forget ((enter 0 xs).2.map (·.1)++ids)).ob⟩ (ids.map fun id=> .adr id 1 0) d.args.toList:=by
    show Rl _ _ (da.map (a1.tmps.getD · undef))
    rw [hvals]
    refine dW hI3.obs ?_
    intro id hid
    have hp:=hI3.par (id,hd1 id) (List.mem_append.2 (.inr (List.mem_map.2 ⟨id,hid,rfl⟩)))
    exact ⟨(hboxes id hid).2,hp.1,hp.2⟩
   obtain ⟨S4,bs4,q1,q2,q3,q4⟩:=eL (Γ:=Γ) (d:=0) hI3.obs hargs htx hdist
   have hRD:RD S4 w2 x v:=RD.mono q3 _ _ (RD.mono hst3 _ _ hv)
   have hcall:=hSD.2.2 S4 w2 d.args ys bs4 x v q1 ⟨q2.1,hI3.gl.1,fun b hb=>⟨(hI3.gl.2 b hb).1,fun hm=>q2.2 b hm (hI3.gl.2 b hb).2⟩⟩ hRD outs hFD
   show Leaves P fn a2.tmps (nZ S w bs (yF xs args.toList) out) a2.defers (.panicking [{ v,recovered:=false }]) w2
   rw [hdef]
   refine leaves_cons (by simp) (hinv w2) (hcall.mono ?_)
   rintro e' u' w3 ⟨rfl,hends⟩
   obtain ⟨S5,hd5,role5,v5,rfl,hext,_⟩:=q4 _ _ hback e' w3 hends
   have hI5:=hI3.ext hext
   have hslot:∀ m,R ⟨S5,w3,hd5,za (st2.forget ((enter 0 xs).2.map (·.1)++ids)).ob us⟩ (st'.slot m) (a2.tmps.getD m undef):=by
    intro m
    rw [← hrec]
    show R _ (zj (um da ids) m) _
    have hRl:Rl ⟨S5,w3,hd5,za (st2.forget ((enter 0 xs).2.map (·.1)++ids)).ob us⟩ (ids.map fun id=> .adr id 1 0) (da.map (a2.tmps.getD · undef)):=by
     have e:da.map (a2.tmps.getD · undef)=da.map (a1.tmps.getD · undef):=by
      apply List.map_congr_left
      intro t ht
      exact hI2.fix t ht
     rw [e,hvals]
     refine dW hI5.obs ?_
     intro id hid
     have hp:=hI5.par (id,hd1 id) (List.mem_append.2 (.inr (List.mem_map.2 ⟨id,hid,rfl⟩)))
     exact ⟨(hboxes id hid).2,hp.1,hp.2⟩
    exact gD (f:=(a2.tmps.getD · undef)) hRl
   have hI6:Inv (F.behind ⟨fn.ntmps,da,cuts⟩ ids hd1 a1 d) st' S5 hd5 role5 a2 w3:=by
    have eob:st'.ob=za (st2.forget ((enter 0 xs).2.map (·.1)++ids)).ob us:=by rw [← hrec]
    exact ⟨hI5.num,hI5.dfr,hI5.fix,fun m=>by rw [eob]; exact hslot m,by rw [eob]; exact hI5.obs,hI5.os,hI5.tape,hI5.output,hI5.size,hI5.heap,hI5.gl,hI5.roleP,hI5.role,by rw [eob]; exact hI5.par⟩
   unfold rG at hl
   split at hl
   case isFalse=>cases hl
   have hb:=hcore .ret st' out ‹_› hl .ret { a2 with defers:=[] } w3 ⟨S5,hd5,role5,hbef hI6,rfl⟩
   exact hb.2
end
end Go.Vm
